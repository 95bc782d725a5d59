/- The contracts of the functions of the laws over slices of integers: a copy, equality, marks. -/
import Derived.Test.YtoagpfdhbcgdcaaDoorFlat
import Derived.Test.YtoagpfdhbcgdcaaDoorMem
namespace Go.Proofs.YtoagpfdhbcgdcaaDoor
open Go.RowKit
set_option linter.unusedVariables false

theorem eltInt : Elt Tryd.prog 24 3 1 8 := elt_mk (z := .int .i64 0) (by kernel_rfl) rfl Tryd.underlying24 (by decide)
abbrev ints (xs : List Int) : List Value := xs.map (Value.int .i64)
theorem ints_at {xs : List Int} {k : Nat} (hk : k < xs.length) : ∃ x, xs[k]? = some x ∧ (ints xs)[k]? = some (.int .i64 x) := ⟨xs[k], by simp [hk], by simp [ints, hk]⟩

theorem toIntS_any (A : Option Addr) (n c : Nat) (xs : List Int) (w : World) (h : Sl w A n c 1 (ints xs)) (hn : n ≤ 1048576) :
    Calls Tryd.prog 54 #[.slice A n c] w fun e w' => e = .returned (.slice (some ⟨w.heap.size, 0, none⟩) n n) ∧ w'.ownsRow w.heap.size 3 1 (.slice (some ⟨w.heap.size, 0, none⟩) n n) n (ints xs) ∧ Below w.heap.size w w' := by
  obtain ⟨i0, hi, hz0, hz1, hz2⟩ := info_parts (show (Tryd.prog.info? 3).map (fun i => (i.zero, i.size, i.bytes)) = some (some (.int .i64 0), 1, 8) by kernel_rfl)
  have hlen : xs.length = n := by have := h.len; simpa using this
  go_enter Tryd.func54, Tryd.ntmps54
  go_wp2_with (at_make; refine wpList_make_full _ rfl _ _ 24 rfl w.heap.size 3 i0 (.int .i64 0) 1 Tryd.underlying24 hi hz0 hz1 .i64 .i64 n n n rfl rfl rfl rfl (by rw [hz2]; omega) (by unfold maxLen; omega) (Nat.le_refl _) ?_; intro w1 hown hg)
  have hb : Below w.heap.size w w1 := below_of_grown hg (Nat.le_refl _) (by simp)
  go_loopw [4] (fun i wr => ∃ (k : Nat) (vs : List Value), k ≤ n ∧ i = .int .i64 k ∧ wr.ownsRow w.heap.size 3 1 (.slice (some ⟨w.heap.size, 0, none⟩) n n) n vs ∧ vs.take k = (ints xs).take k ∧ Below w.heap.size w wr) (fun i _ => n - (intOf i).toNat)
  case atStart => exact ⟨0, _, Nat.zero_le _, rfl, hown, rfl, hb⟩
  case round =>
    obtain ⟨k, vs, hk, rfl, hown, htk, hb⟩ := hrel
    by_cases hlt : k < n
    · obtain ⟨ad, rfl, hsee⟩ := (h.see.below hb).ad (k := k) (by rw [h.len]; omega)
      obtain ⟨x, hx, hx'⟩ := ints_at (xs := xs) (k := k) (by omega)
      have hc := hsee k _ hx'
      obtain ⟨old, ho, hcell⟩ := own_old (k := k) hown (show k < n * 1 by omega)
      have hfr := hown.frozenAt k
      have R1 := hown.stored k (.int .i64 x)
      have R2 := take_set_snoc htk (by have := hown.1; omega) hx'
      have R3 := hb.grown R1.2 (hb.size) (by rintro _ ⟨rfl⟩; exact Nat.le_refl _)
      have R := hid (And.intro R1.1 (And.intro R2 R3))
      clear R1 R2 R3 hsee hx hx' ho htk hb hown
      go_wp2
      go_roundw
      case rel => exact ⟨k + 1, _, by omega, by go_num, R.out.1, R.out.2.1, R.out.2.2⟩
      case measure => simp [intOf]; omega
    · obtain rfl : k = n := by omega
      have R : vs = ints xs := by
        have h1 := hown.1
        have h2 := h.len
        rw [List.take_of_length_le (by omega), List.take_of_length_le (by omega)] at htk
        exact htk
      subst R
      have R := hid (And.intro hown hb)
      clear hown hb htk
      go_wp2
      go_ret
      exact ⟨rfl, R.out⟩
theorem eqIntS_any (A B : Option Addr) (n c m d : Nat) (xs ys : List Int) (w : World) (hx : Sl w A n c 1 (ints xs)) (hy : Sl w B m d 1 (ints ys)) :
    Calls Tryd.prog 57 #[.slice A n c, .slice B m d] w fun e w' => e = .returned (.bool (decide (xs = ys))) ∧ ∃ q, w' = w.drewN q := by
  have hlx : xs.length = n := by have := hx.len; simpa using this
  have hly : ys.length = m := by have := hy.len; simpa using this
  have hmx := hx.max
  have hmy := hy.max
  have hcx := hx.cap
  have hcy := hy.cap
  unfold maxLen at hmx hmy
  by_cases hnm : n = m
  · subst hnm
    go_enter Tryd.func57, Tryd.ntmps57
    go_wp2
    go_loopw [5] (fun i wr => ∃ (k q : Nat), k ≤ n ∧ i = .int .i64 k ∧ wr = w.drewN q ∧ xs.take k = ys.take k) (fun i _ => n - (intOf i).toNat)
    case atStart => exact ⟨0, 0, Nat.zero_le _, rfl, rfl, rfl⟩
    case round =>
      obtain ⟨k, q, hk, rfl, rfl, htk⟩ := hrel
      by_cases hlt : k < n
      · obtain ⟨ax, rfl, hsx⟩ := hx.see.ad (k := k) (by rw [hx.len]; omega)
        obtain ⟨ay, rfl, hsy⟩ := hy.see.ad (k := k) (by rw [hy.len]; omega)
        obtain ⟨x, gx, gx'⟩ := ints_at (xs := xs) (k := k) (by omega)
        obtain ⟨y, gy, gy'⟩ := ints_at (xs := ys) (k := k) (by omega)
        have cx := hsx k _ gx'
        have cy := hsy k _ gy'
        clear hsx hsy gx' gy'
        by_cases he : x = y
        · subst he
          have R := hid (take_next htk gx gy)
          clear gx gy htk
          go_wp2
          go_quiet (fail)
          go_wp2
          go_roundw
          case rel => exact ⟨k + 1, _, by omega, by go_num, rfl, R.out⟩
          case measure => simp [intOf]; omega
        · have hne : decide (xs = ys) = false := by
            refine decide_eq_false fun e => he ?_
            subst e
            rw [gx] at gy
            injection gy
          have H := hid hne
          have hb1 : (x == y) = false := by simpa using he
          clear gx gy htk hne
          go_wp2
          go_quiet (fail)
          go_wp2
          go_ret
          exact ⟨ret_bool H.out.symm, _, World.drewN_drewN _ _ _⟩
      · obtain rfl : k = n := by omega
        have R : xs = ys := by
          rw [List.take_of_length_le (by omega), List.take_of_length_le (by omega)] at htk
          exact htk
        have H := hid (decide_eq_true R)
        clear htk R
        go_wp2
        go_ret
        exact ⟨ret_bool H.out.symm, _, rfl⟩
  · have hne : decide (xs = ys) = false := by
      refine decide_eq_false fun e => hnm ?_
      rw [← hlx, ← hly, e]
    rw [hne]
    have hb1 : ((n : Int) == (m : Int)) = false := by simpa using fun e => hnm (by exact_mod_cast e)
    go_enter Tryd.func57, Tryd.ntmps57
    go_wp2
    go_ret
    exact ⟨rfl, 0, rfl⟩
theorem sameInts_any (A B : Option Addr) (n c m d : Nat) (xs ys : List Int) (w : World) (hx : Sl w A n c 1 (ints xs)) (hy : Sl w B m d 1 (ints ys)) :
    Calls Tryd.prog 46 #[.slice A n c, .slice B m d] w fun e w' => e = .returned (.bool (decide (xs = ys))) ∧ ∃ q, w' = w.drewN q := by
  have hlx : xs.length = n := by have := hx.len; simpa using this
  have hly : ys.length = m := by have := hy.len; simpa using this
  have hmx := hx.max
  have hmy := hy.max
  have hcx := hx.cap
  have hcy := hy.cap
  unfold maxLen at hmx hmy
  by_cases hnm : n = m
  · subst hnm
    go_enter Tryd.func46, Tryd.ntmps46
    go_wp2
    go_loopw [5] (fun i wr => ∃ (k q : Nat), k ≤ n ∧ i = .int .i64 k ∧ wr = w.drewN q ∧ xs.take k = ys.take k) (fun i _ => n - (intOf i).toNat)
    case atStart => exact ⟨0, 0, Nat.zero_le _, rfl, rfl, rfl⟩
    case round =>
      obtain ⟨k, q, hk, rfl, rfl, htk⟩ := hrel
      by_cases hlt : k < n
      · obtain ⟨ax, rfl, hsx⟩ := hx.see.ad (k := k) (by rw [hx.len]; omega)
        obtain ⟨ay, rfl, hsy⟩ := hy.see.ad (k := k) (by rw [hy.len]; omega)
        obtain ⟨x, gx, gx'⟩ := ints_at (xs := xs) (k := k) (by omega)
        obtain ⟨y, gy, gy'⟩ := ints_at (xs := ys) (k := k) (by omega)
        have cx := hsx k _ gx'
        have cy := hsy k _ gy'
        clear hsx hsy gx' gy'
        by_cases he : x = y
        · subst he
          have R := hid (take_next htk gx gy)
          clear gx gy htk
          go_wp2
          go_quiet (fail)
          go_wp2
          go_roundw
          case rel => exact ⟨k + 1, _, by omega, by go_num, rfl, R.out⟩
          case measure => simp [intOf]; omega
        · have hne : decide (xs = ys) = false := by
            refine decide_eq_false fun e => he ?_
            subst e
            rw [gx] at gy
            injection gy
          have H := hid hne
          have hb1 : (x == y) = false := by simpa using he
          clear gx gy htk hne
          go_wp2
          go_quiet (fail)
          go_wp2
          go_ret
          exact ⟨ret_bool H.out.symm, _, World.drewN_drewN _ _ _⟩
      · obtain rfl : k = n := by omega
        have R : xs = ys := by
          rw [List.take_of_length_le (by omega), List.take_of_length_le (by omega)] at htk
          exact htk
        have H := hid (decide_eq_true R)
        clear htk R
        go_wp2
        go_ret
        exact ⟨ret_bool H.out.symm, _, rfl⟩
  · have hne : decide (xs = ys) = false := by
      refine decide_eq_false fun e => hnm ?_
      rw [← hlx, ← hly, e]
    rw [hne]
    have hb1 : ((n : Int) == (m : Int)) = false := by simpa using fun e => hnm (by exact_mod_cast e)
    go_enter Tryd.func46, Tryd.ntmps46
    go_wp2
    go_ret
    exact ⟨rfl, 0, rfl⟩

/-- The marks k, k + 1, .. -/
def markN (k : Nat) (n : Nat) : List Int := (List.range n).map fun j => ((k + j : Nat) : Int)
theorem markN_at {k n j : Nat} (h : j < n) : (ints (markN k n))[j]? = some (.int .i64 ((k + j : Nat) : Int)) := by simp [ints, markN, h]
theorem markN_length (k n : Nat) : (markN k n).length = n := by simp [markN]

theorem markIntS_nat (A : Option Addr) (n c k : Nat) (vs : List Value) (base : Nat) (w : World) (h : w.ownsRow base 3 1 (.slice A n c) n vs) (hn : n ≤ 1048576) (hk : k ≤ 4294967296) :
    Calls Tryd.prog 59 #[.slice A n c, .int .i64 k] w fun e w' => e = .returned (.int .i64 ((k + n : Nat) : Int)) ∧ w'.ownsRow base 3 1 (.slice A n c) n (ints (markN k n)) ∧ w.grownBy w' (Value.slice A n c).ownBlock := by
  obtain ⟨A', c', hv, h1, h2, h3⟩ := own_form h
  obtain ⟨rfl, rfl⟩ : A = A' ∧ c = c' := by injection hv with a b d; exact ⟨a, d⟩
  clear hv
  unfold maxLen at h2
  have G := hid (World.grownBy.refl w (Value.slice A n c).ownBlock)
  go_enter Tryd.func59, Tryd.ntmps59
  go_wp2
  go_loopw [1, 5] (fun q i wr => ∃ (j : Nat) (us : List Value), j ≤ n ∧ i = .int .i64 j ∧ q = .int .i64 ((k + j : Nat) : Int) ∧ wr.ownsRow base 3 1 (.slice A n c) n us ∧ us.take j = (ints (markN k n)).take j ∧ w.grownBy wr (Value.slice A n c).ownBlock) (fun _ i _ => n - (intOf i).toNat)
  case atStart => exact ⟨0, _, Nat.zero_le _, rfl, rfl, h, rfl, G.out⟩
  case round =>
    obtain ⟨j, us, hj, rfl, rfl, hown, htk, hg⟩ := hrel
    by_cases hlt : j < n
    · obtain ⟨g, rfl, _, _⟩ : ∃ g, A = some ⟨g, 0, none⟩ ∧ base ≤ g ∧ g < w.heap.size := by
        rcases h3 with rfl | h3
        · rcases h.2 with ⟨_, h0⟩ | ⟨g, cap, cur, hv, _⟩
          · omega
          · cases hv
        · exact h3
      obtain ⟨old, ho, hcell⟩ := own_old (k := j) hown (show j < n * 1 by omega)
      have hfr := hown.frozenAt j
      have R1 := hown.stored j (.int .i64 ((k + j : Nat) : Int))
      have R2 := take_set_snoc htk (by have := hown.1; omega) (markN_at (k := k) hlt)
      have R := hid (And.intro R1.1 (And.intro R2 (hg.trans R1.2)))
      clear R1 R2 ho htk hg hown h h3 G
      go_wp2
      go_roundw
      case rel => exact ⟨j + 1, _, by omega, by go_num, by go_num, R.out.1, R.out.2.1, R.out.2.2⟩
      case measure => simp [intOf]; omega
    · obtain rfl : j = n := by omega
      have R : us = ints (markN k j) := by
        have h1 := hown.1
        rw [List.take_of_length_le (by omega), List.take_of_length_le (by simp [ints, markN_length])] at htk
        exact htk
      subst R
      have R := hid (And.intro hown hg)
      clear hown hg htk h h3 G
      go_wp2
      go_ret
      exact ⟨rfl, R.out⟩

theorem markIntS_any (A : Option Addr) (n c : Nat) (q : Int) (k : Nat) (hq : q = (k : Int)) (vs : List Value) (base : Nat) (w : World) (h : w.ownsRow base 3 1 (.slice A n c) n vs) (hn : n ≤ 1048576) (hk : k ≤ 4294967296) :
    Calls Tryd.prog 59 #[.slice A n c, .int .i64 q] w fun e w' => e = .returned (.int .i64 ((k + n : Nat) : Int)) ∧ w'.ownsRow base 3 1 (.slice A n c) n (ints (markN k n)) ∧ w.grownBy w' (Value.slice A n c).ownBlock := by
  subst hq; exact markIntS_nat A n c k vs base w h hn hk

theorem heldIntS_nat (A : Option Addr) (n c k : Nat) (w : World) (h : Sl w A n c 1 (ints (markN k n))) (hn : n ≤ 1048576) (hk : k ≤ 4294967296) :
    Calls Tryd.prog 61 #[.slice A n c, .int .i64 k] w fun e w' => e = .returned (.int .i64 ((k + n : Nat) : Int)) ∧ w = w' := by
  go_enter Tryd.func61, Tryd.ntmps61
  go_wp2
  go_loop [1, 5] (fun q i => ∃ j : Nat, j ≤ n ∧ i = .int .i64 j ∧ q = .int .i64 ((k + j : Nat) : Int)) (fun _ i => n - (intOf i).toNat)
  case atStart => exact ⟨0, Nat.zero_le _, rfl, rfl⟩
  case round =>
    obtain ⟨j, hj, rfl, rfl⟩ := hrel
    by_cases hlt : j < n
    · obtain ⟨ad, rfl, hsee⟩ := h.see.ad (k := j) (by rw [h.len]; omega)
      have hc := hsee j _ (markN_at (k := k) hlt)
      clear hsee h
      go_wp2
      go_round
      case rel => exact ⟨j + 1, by omega, by go_num, by go_num⟩
      case measure => simp [intOf]; omega
    · obtain rfl : j = n := by omega
      go_wp2
      go_ret
      exact ⟨rfl, rfl⟩
theorem heldIntS_any (A : Option Addr) (n c : Nat) (q : Int) (k : Nat) (hq : q = (k : Int)) (w : World) (h : Sl w A n c 1 (ints (markN k n))) (hn : n ≤ 1048576) (hk : k ≤ 4294967296) :
    Calls Tryd.prog 61 #[.slice A n c, .int .i64 q] w fun e w' => e = .returned (.int .i64 ((k + n : Nat) : Int)) ∧ w = w' := by
  subst hq; exact heldIntS_nat A n c k w h hn hk
end Go.Proofs.YtoagpfdhbcgdcaaDoor
