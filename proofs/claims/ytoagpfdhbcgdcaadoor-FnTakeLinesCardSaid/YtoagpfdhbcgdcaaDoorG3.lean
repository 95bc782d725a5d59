/- The texts Rd, Ints, Draw, Facts, DrawHd, Live, Ghost, Chain, Copy2, Env, EnvG, EnvW, in one. -/
import Derived.Test.YtoagpfdhbcgdcaaDoorG1
import Derived.Laws.BitsAllLaws
import Derived.Laws.BitsLemmas
import Derived.Test.YtoagpfdhbcgdcaaDoorG2
section
/- The contracts of the reader that the draws share: it is opened over a code, and each pick returns a number in its range and turns the reader alone. -/
namespace Go.Proofs.YtoagpfdhbcgdcaaDoor
open Go.RowKit
set_option linter.unusedVariables false

abbrev bytes (xs : List Int) : List Value := xs.map (Value.int .u8)
/-- Block g is a reader that has picked p times. -/
def Rd (w : World) (g p : Nat) : Prop :=
  ∃ (A : Option Addr) (n c : Nat) (xs : List Int), w.heap[g]? = some (.cells #[.slice A n c, .int .i64 p] 89 (0, 0)) ∧ Sl w A n c 1 (bytes xs) ∧ (∀ x ∈ xs, 0 ≤ x ∧ x ≤ 255) ∧ n ≤ 2000 ∧ (bytes xs ≠ [] → ∀ ad, A = some ad → ad.block < g)

theorem Rd.lt {w : World} {g p : Nat} (h : Rd w g p) : g < w.heap.size := by
  obtain ⟨A, n, c, xs, hg, _⟩ := h
  exact (Array.getElem?_eq_some_iff.1 hg).1
theorem Rd.below {w w' : World} {g p : Nat} (h : Rd w g p) (hb : Below w.heap.size w w') : Rd w' g p := by
  have hlt := h.lt
  obtain ⟨A, n, c, xs, hg, hs, r⟩ := h
  exact ⟨A, n, c, xs, (hb.block g hlt).trans hg, hs.below hb, r⟩
theorem Rd.drewN {w : World} {g p : Nat} (h : Rd w g p) (k : Nat) : Rd (w.drewN k) g p := by
  obtain ⟨A, n, c, xs, hg, hs, r⟩ := h
  exact ⟨A, n, c, xs, hg, hs.drewN k, r⟩
theorem Rd.grown {w w' : World} {g p : Nat} (h : Rd w g p) {row : Option Nat} (hg : w.grownBy w' row) (hr : ∀ k, row = some k → g < k) : Rd w' g p := by
  have hlt := h.lt
  obtain ⟨A, n, c, xs, hb, hs, hx, hn, hA⟩ := h
  refine ⟨A, n, c, xs, (hg.block g hlt (fun e => ?_)).trans hb, hs.grown hg (fun hv ad ha e => ?_), hx, hn, hA⟩
  · have := hr g e.symm; omega
  · have h1 := hr _ e.symm; have h2 := hA hv ad ha; omega

theorem Rd.stored {w : World} {g p : Nat} (h : Rd w g p) : Rd (w.setCell ⟨g, 1, none⟩ (.int .i64 ((p : Int) + 1))) g (p + 1) ∧ w.grownBy (w.setCell ⟨g, 1, none⟩ (.int .i64 ((p : Int) + 1))) (some g) := by
  obtain ⟨A, n, c, xs, hg, hs, hx, hn, hA⟩ := h
  refine ⟨⟨A, n, c, xs, ?_, ⟨hs.see.setCell (p := ⟨g, 1, none⟩) (fun hv ad ha => by have := hA hv ad ha; show ad.block ≠ g; omega) _, hs.len, hs.cap, hs.max⟩, hx, hn, hA⟩,
    ⟨rfl, rfl, rfl, by simp, fun k _ hk => heap_setCell_other w ⟨g, 1, none⟩ k _ (fun e => hk (by simp [e]))⟩⟩
  have := heap_setCell_same w g 1 _ 89 (.int .i64 ((p : Int) + 1)) hg
  simpa using this
theorem bytes_at {xs : List Int} {k : Nat} (hk : k < xs.length) : ∃ x, x ∈ xs ∧ (bytes xs)[k]? = some (.int .u8 x) := ⟨xs[k], by simp, by simp [bytes, hk]⟩

theorem ofInt_small (a : Nat) (ha : a < 9223372036854775808) : (BitVec.ofInt 64 (a : Int)).toNat = a := by
  rw [BitVec.ofInt_natCast, BitVec.toNat_ofNat]; exact Nat.mod_eq_of_lt (by omega)
theorem xor_small (z : Int) (h0 : 0 ≤ z) (h1 : z ≤ 1000000000) : 0 ≤ bits .xor .i64 z (z / 64) := by
  obtain ⟨k, rfl⟩ := Int.eq_ofNat_of_zero_le h0
  have e : ((k : Int) / 64) = ((k / 64 : Nat) : Int) := by omega
  have hx : k ^^^ k / 64 < 2 ^ 63 := Nat.xor_lt_two_pow (by omega) (by omega)
  rw [e]
  show 0 ≤ IntKind.i64.wrap ((BitVec.ofInt 64 (k : Int) ^^^ BitVec.ofInt 64 ((k / 64 : Nat) : Int)).toNat : Int)
  rw [BitVec.toNat_xor, ofInt_small k (by omega), ofInt_small (k / 64) (by omega), IntKind.wrap_i64]
  omega
theorem pick_range {z n : Int} (h0 : 0 ≤ z) (h1 : z ≤ 1000000000) (hn : 1 ≤ n) : 0 ≤ (bits .xor .i64 z (z / 64)).tmod n ∧ (bits .xor .i64 z (z / 64)).tmod n < n := by
  have h := xor_small z h0 h1
  rw [Int.tmod_eq_emod_of_nonneg h]
  exact ⟨Int.emod_nonneg _ (by omega), Int.emod_lt_of_pos _ (by omega)⟩
theorem pick_any (g p : Nat) (n : Int) (w : World) (h : Rd w g p) (hp : p ≤ 100000) (h1 : 1 ≤ n) (h2 : n ≤ 1048576) :
    Calls Tryd.prog 62 #[.pointer (some ⟨g, 0, none⟩), .int .i64 n] w fun e w' => ∃ q : Int, e = .returned (.int .i64 q) ∧ 0 ≤ q ∧ q < n ∧ Rd w' g (p + 1) ∧ w.grownBy w' (some g) := by
  have st := hid h.stored
  obtain ⟨A, m, c, xs, hg, hs, hx, hm, hA⟩ := h
  have c0 : w.cell? ⟨g, 0, none⟩ = some (.slice A m c) := cell_of_row w g 0 _ _ _ hg
  have c1 : w.cell? ⟨g, 1, none⟩ = some (.int .i64 p) := cell_of_row w g 1 _ _ _ hg
  have f1 : w.frozen? ⟨g, 1, none⟩ = false := frozen_of_row w g 1 _ _ hg
  have hmax := hs.max
  have hcap := hs.cap
  unfold maxLen at hmax
  have hlen : xs.length = m := by have := hs.len; simpa using this
  clear hg
  by_cases m0 : m = 0
  · have hb : ((m : Int) == 0) = true := by simp [m0]
    clear hs hA hx hlen hcap hmax m0
    go_enter Tryd.func62, Tryd.ntmps62
    go_wp2
    go_ret
    exact ⟨0, rfl, by omega, by omega, st.out.1, st.out.2⟩
  · have hb : ((m : Int) == 0) = false := by simp [m0]
    by_cases hpm : p < m
    · obtain ⟨ad, rfl, hsee⟩ := hs.see.ad (k := p) (by rw [hs.len]; omega)
      obtain ⟨x, hxm, hx'⟩ := bytes_at (xs := xs) (k := p) (by omega)
      have cc := hsee p _ hx'
      have cx := (World.cell?_setCell_other w ⟨g, 1, none⟩ (ad.add p) (.int .i64 ((p : Int) + 1)) (fun e => by have h1 := hA (by intro e; have := congrArg List.length e; rw [hs.len] at this; simp at this; omega) ad rfl; have h2 := congrArg Addr.block e; rw [addr_block] at h2; simp at h2; omega)).trans cc
      obtain ⟨x0, x255⟩ := hx x hxm
      clear hs hA hx hlen hcap hmax m0 hsee hx' hxm
      go_enter Tryd.func62, Tryd.ntmps62
      go_wp2
      go_ret
      exact ⟨x % n, rfl, Int.emod_nonneg _ (by omega), Int.emod_lt_of_pos _ (by omega), st.out.1, st.out.2⟩
    · have hm1 : 0 < m := by omega
      have r1 : p % m < m := Nat.mod_lt _ hm1
      have r2 : (p * 7 + 3) % m < m := Nat.mod_lt _ hm1
      obtain ⟨ad, rfl, hsee⟩ := hs.see.ad (k := 0) (by rw [hs.len]; omega)
      obtain ⟨x, hxm, hx'⟩ := bytes_at (xs := xs) (k := p % m) (by omega)
      obtain ⟨y, hym, hy'⟩ := bytes_at (xs := xs) (k := (p * 7 + 3) % m) (by omega)
      have cx := (World.cell?_setCell_other w ⟨g, 1, none⟩ (ad.add (p % m)) (.int .i64 ((p : Int) + 1)) (fun e => by have h1 := hA (by intro e; have := congrArg List.length e; rw [hs.len] at this; simp at this; omega) ad rfl; have h2 := congrArg Addr.block e; rw [addr_block] at h2; simp at h2; omega)).trans (hsee _ _ hx')
      have cy := (World.cell?_setCell_other w ⟨g, 1, none⟩ (ad.add ((p * 7 + 3) % m)) (.int .i64 ((p : Int) + 1)) (fun e => by have h1 := hA (by intro e; have := congrArg List.length e; rw [hs.len] at this; simp at this; omega) ad rfl; have h2 := congrArg Addr.block e; rw [addr_block] at h2; simp at h2; omega)).trans (hsee _ _ hy')
      obtain ⟨x0, x255⟩ := hx x hxm
      obtain ⟨y0, y255⟩ := hx y hym
      clear hs hA hx hlen hcap hmax m0 hsee hx' hxm hy' hym
      go_enter Tryd.func62, Tryd.ntmps62
      have c0' : (w.setCell ⟨g, 1, none⟩ (.int .i64 ((p : Int) + 1))).cell? ⟨g, 0, none⟩ = some (.slice (some ad) m c) := (World.cell?_setCell_other w ⟨g, 1, none⟩ ⟨g, 0, none⟩ _ (by simp)).trans c0
      go_wp2
      have hI1 : 0 ≤ ((p : Int) * 7 + 3) % (m : Int) := Int.emod_nonneg _ (by omega)
      have hI2 : ((p : Int) * 7 + 3) % (m : Int) < m := Int.emod_lt_of_pos _ (by omega)
      have hI3 : (((p : Int) * 7 + 3) % (m : Int)).toNat = (p * 7 + 3) % m := by
        rw [show ((p : Int) * 7 + 3) % (m : Int) = (((p * 7 + 3) % m : Nat) : Int) by push_cast; rfl, Int.toNat_natCast]
      have hD : (p : Int) / m ≤ 100000 := Int.le_trans (Int.ediv_le_self _ (by omega)) (by omega)
      have hD0 : 0 ≤ (p : Int) / m := Int.ediv_nonneg (by omega) (by omega)
      go_quiet (fail)
      clear hI1 hI2 hI3
      go_wp2
      go_ret
      have hr := pick_range (z := x * 131 + y * 1117 + (p : Int) * 29 + (p : Int) / m * 53) (n := n) (by omega) (by omega) h1
      exact ⟨_, rfl, hr.1, hr.2, st.out.1.drewN _, ⟨st.out.2.os, st.out.2.tape, st.out.2.output, st.out.2.size, st.out.2.block⟩⟩
end Go.Proofs.YtoagpfdhbcgdcaaDoor
end
section
/- The contracts of the functions of the laws over slices of integers: a copy, equality, marks. -/
namespace Go.Proofs.YtoagpfdhbcgdcaaDoor
open Go.RowKit
set_option linter.unusedVariables false

theorem eltInt : Elt Tryd.prog 24 3 1 8 := elt_mk (z := .int .i64 0) (by kernel_rfl) rfl Tryd.underlying24 (by decide)
abbrev ints (xs : List Int) : List Value := xs.map (Value.int .i64)
theorem ints_at {xs : List Int} {k : Nat} (hk : k < xs.length) : ∃ x, xs[k]? = some x ∧ (ints xs)[k]? = some (.int .i64 x) := ⟨xs[k], by simp [hk], by simp [ints, hk]⟩

theorem toIntS_any (A : Option Addr) (n c : Nat) (xs : List Int) (w : World) (h : Sl w A n c 1 (ints xs)) (hn : n ≤ 1048576) :
    Calls Tryd.prog 54 #[.slice A n c] w fun e w' => e = .returned (.slice (some ⟨w.heap.size, 0, none⟩) n n) ∧ w'.ownsRow w.heap.size 3 1 (.slice (some ⟨w.heap.size, 0, none⟩) n n) n (ints xs) ∧ Below w.heap.size w w' := by
  obtain ⟨i0, hi, hz0, hz1, hz2⟩ := info_parts (show (Tryd.prog.info? 3).map (fun i => (i.zero, i.size, i.bytes)) = some (some (.int .i64 0), 1, 8) by kernel_rfl)
  have hlen : xs.length = n := by have := h.len; simpa using this
  go_enter Tryd.func54, Tryd.ntmps54
  go_wp2_with (at_make; refine wpList_make_full _ rfl _ _ 24 rfl w.heap.size 3 i0 (.int .i64 0) 1 Tryd.underlying24 hi hz0 hz1 .i64 .i64 n n n rfl rfl rfl rfl (by rw [hz2]; omega) (by unfold maxLen; omega) (Nat.le_refl _) ?_; intro w1 hown hg)
  have hb : Below w.heap.size w w1 := below_of_grown hg (Nat.le_refl _) (by simp)
  go_loopw [4] (fun i wr => ∃ (k : Nat) (vs : List Value), k ≤ n ∧ i = .int .i64 k ∧ wr.ownsRow w.heap.size 3 1 (.slice (some ⟨w.heap.size, 0, none⟩) n n) n vs ∧ vs.take k = (ints xs).take k ∧ Below w.heap.size w wr) (fun i _ => n - (intOf i).toNat)
  case atStart => exact ⟨0, _, Nat.zero_le _, rfl, hown, rfl, hb⟩
  case round =>
    obtain ⟨k, vs, hk, rfl, hown, htk, hb⟩ := hrel
    by_cases hlt : k < n
    · obtain ⟨ad, rfl, hsee⟩ := (h.see.below hb).ad (k := k) (by rw [h.len]; omega)
      obtain ⟨x, hx, hx'⟩ := ints_at (xs := xs) (k := k) (by omega)
      have hc := hsee k _ hx'
      obtain ⟨old, ho, hcell⟩ := own_old (k := k) hown (show k < n * 1 by omega)
      have hfr := hown.frozenAt k
      have R1 := hown.stored k (.int .i64 x)
      have R2 := take_set_snoc htk (by have := hown.1; omega) hx'
      have R3 := hb.grown R1.2 (hb.size) (by rintro _ ⟨rfl⟩; exact Nat.le_refl _)
      have R := hid (And.intro R1.1 (And.intro R2 R3))
      clear R1 R2 R3 hsee hx hx' ho htk hb hown
      go_wp2
      go_roundw
      case rel => exact ⟨k + 1, _, by omega, by go_num, R.out.1, R.out.2.1, R.out.2.2⟩
      case measure => simp [intOf]; omega
    · obtain rfl : k = n := by omega
      have R : vs = ints xs := by
        have h1 := hown.1
        have h2 := h.len
        rw [List.take_of_length_le (by omega), List.take_of_length_le (by omega)] at htk
        exact htk
      subst R
      have R := hid (And.intro hown hb)
      clear hown hb htk
      go_wp2
      go_ret
      exact ⟨rfl, R.out⟩
theorem eqIntS_any (A B : Option Addr) (n c m d : Nat) (xs ys : List Int) (w : World) (hx : Sl w A n c 1 (ints xs)) (hy : Sl w B m d 1 (ints ys)) :
    Calls Tryd.prog 57 #[.slice A n c, .slice B m d] w fun e w' => e = .returned (.bool (decide (xs = ys))) ∧ ∃ q, w' = w.drewN q := by
  have hlx : xs.length = n := by have := hx.len; simpa using this
  have hly : ys.length = m := by have := hy.len; simpa using this
  have hmx := hx.max
  have hmy := hy.max
  have hcx := hx.cap
  have hcy := hy.cap
  unfold maxLen at hmx hmy
  by_cases hnm : n = m
  · subst hnm
    go_enter Tryd.func57, Tryd.ntmps57
    go_wp2
    go_loopw [5] (fun i wr => ∃ (k q : Nat), k ≤ n ∧ i = .int .i64 k ∧ wr = w.drewN q ∧ xs.take k = ys.take k) (fun i _ => n - (intOf i).toNat)
    case atStart => exact ⟨0, 0, Nat.zero_le _, rfl, rfl, rfl⟩
    case round =>
      obtain ⟨k, q, hk, rfl, rfl, htk⟩ := hrel
      by_cases hlt : k < n
      · obtain ⟨ax, rfl, hsx⟩ := hx.see.ad (k := k) (by rw [hx.len]; omega)
        obtain ⟨ay, rfl, hsy⟩ := hy.see.ad (k := k) (by rw [hy.len]; omega)
        obtain ⟨x, gx, gx'⟩ := ints_at (xs := xs) (k := k) (by omega)
        obtain ⟨y, gy, gy'⟩ := ints_at (xs := ys) (k := k) (by omega)
        have cx := hsx k _ gx'
        have cy := hsy k _ gy'
        clear hsx hsy gx' gy'
        by_cases he : x = y
        · subst he
          have R := hid (take_next htk gx gy)
          clear gx gy htk
          go_wp2
          go_quiet (fail)
          go_wp2
          go_roundw
          case rel => exact ⟨k + 1, _, by omega, by go_num, rfl, R.out⟩
          case measure => simp [intOf]; omega
        · have hne : decide (xs = ys) = false := by
            refine decide_eq_false fun e => he ?_
            subst e
            rw [gx] at gy
            injection gy
          have H := hid hne
          have hb1 : (x == y) = false := by simpa using he
          clear gx gy htk hne
          go_wp2
          go_quiet (fail)
          go_wp2
          go_ret
          exact ⟨ret_bool H.out.symm, _, World.drewN_drewN _ _ _⟩
      · obtain rfl : k = n := by omega
        have R : xs = ys := by
          rw [List.take_of_length_le (by omega), List.take_of_length_le (by omega)] at htk
          exact htk
        have H := hid (decide_eq_true R)
        clear htk R
        go_wp2
        go_ret
        exact ⟨ret_bool H.out.symm, _, rfl⟩
  · have hne : decide (xs = ys) = false := by
      refine decide_eq_false fun e => hnm ?_
      rw [← hlx, ← hly, e]
    rw [hne]
    have hb1 : ((n : Int) == (m : Int)) = false := by simpa using fun e => hnm (by exact_mod_cast e)
    go_enter Tryd.func57, Tryd.ntmps57
    go_wp2
    go_ret
    exact ⟨rfl, 0, rfl⟩
theorem sameInts_any (A B : Option Addr) (n c m d : Nat) (xs ys : List Int) (w : World) (hx : Sl w A n c 1 (ints xs)) (hy : Sl w B m d 1 (ints ys)) :
    Calls Tryd.prog 46 #[.slice A n c, .slice B m d] w fun e w' => e = .returned (.bool (decide (xs = ys))) ∧ ∃ q, w' = w.drewN q := by
  have hlx : xs.length = n := by have := hx.len; simpa using this
  have hly : ys.length = m := by have := hy.len; simpa using this
  have hmx := hx.max
  have hmy := hy.max
  have hcx := hx.cap
  have hcy := hy.cap
  unfold maxLen at hmx hmy
  by_cases hnm : n = m
  · subst hnm
    go_enter Tryd.func46, Tryd.ntmps46
    go_wp2
    go_loopw [5] (fun i wr => ∃ (k q : Nat), k ≤ n ∧ i = .int .i64 k ∧ wr = w.drewN q ∧ xs.take k = ys.take k) (fun i _ => n - (intOf i).toNat)
    case atStart => exact ⟨0, 0, Nat.zero_le _, rfl, rfl, rfl⟩
    case round =>
      obtain ⟨k, q, hk, rfl, rfl, htk⟩ := hrel
      by_cases hlt : k < n
      · obtain ⟨ax, rfl, hsx⟩ := hx.see.ad (k := k) (by rw [hx.len]; omega)
        obtain ⟨ay, rfl, hsy⟩ := hy.see.ad (k := k) (by rw [hy.len]; omega)
        obtain ⟨x, gx, gx'⟩ := ints_at (xs := xs) (k := k) (by omega)
        obtain ⟨y, gy, gy'⟩ := ints_at (xs := ys) (k := k) (by omega)
        have cx := hsx k _ gx'
        have cy := hsy k _ gy'
        clear hsx hsy gx' gy'
        by_cases he : x = y
        · subst he
          have R := hid (take_next htk gx gy)
          clear gx gy htk
          go_wp2
          go_quiet (fail)
          go_wp2
          go_roundw
          case rel => exact ⟨k + 1, _, by omega, by go_num, rfl, R.out⟩
          case measure => simp [intOf]; omega
        · have hne : decide (xs = ys) = false := by
            refine decide_eq_false fun e => he ?_
            subst e
            rw [gx] at gy
            injection gy
          have H := hid hne
          have hb1 : (x == y) = false := by simpa using he
          clear gx gy htk hne
          go_wp2
          go_quiet (fail)
          go_wp2
          go_ret
          exact ⟨ret_bool H.out.symm, _, World.drewN_drewN _ _ _⟩
      · obtain rfl : k = n := by omega
        have R : xs = ys := by
          rw [List.take_of_length_le (by omega), List.take_of_length_le (by omega)] at htk
          exact htk
        have H := hid (decide_eq_true R)
        clear htk R
        go_wp2
        go_ret
        exact ⟨ret_bool H.out.symm, _, rfl⟩
  · have hne : decide (xs = ys) = false := by
      refine decide_eq_false fun e => hnm ?_
      rw [← hlx, ← hly, e]
    rw [hne]
    have hb1 : ((n : Int) == (m : Int)) = false := by simpa using fun e => hnm (by exact_mod_cast e)
    go_enter Tryd.func46, Tryd.ntmps46
    go_wp2
    go_ret
    exact ⟨rfl, 0, rfl⟩

/-- The marks k, k + 1, .. -/
def markN (k : Nat) (n : Nat) : List Int := (List.range n).map fun j => ((k + j : Nat) : Int)
theorem markN_at {k n j : Nat} (h : j < n) : (ints (markN k n))[j]? = some (.int .i64 ((k + j : Nat) : Int)) := by simp [ints, markN, h]
theorem markN_length (k n : Nat) : (markN k n).length = n := by simp [markN]

theorem markIntS_nat (A : Option Addr) (n c k : Nat) (vs : List Value) (base : Nat) (w : World) (h : w.ownsRow base 3 1 (.slice A n c) n vs) (hn : n ≤ 1048576) (hk : k ≤ 4294967296) :
    Calls Tryd.prog 59 #[.slice A n c, .int .i64 k] w fun e w' => e = .returned (.int .i64 ((k + n : Nat) : Int)) ∧ w'.ownsRow base 3 1 (.slice A n c) n (ints (markN k n)) ∧ w.grownBy w' (Value.slice A n c).ownBlock := by
  obtain ⟨A', c', hv, h1, h2, h3⟩ := own_form h
  obtain ⟨rfl, rfl⟩ : A = A' ∧ c = c' := by injection hv with a b d; exact ⟨a, d⟩
  clear hv
  unfold maxLen at h2
  have G := hid (World.grownBy.refl w (Value.slice A n c).ownBlock)
  go_enter Tryd.func59, Tryd.ntmps59
  go_wp2
  go_loopw [1, 5] (fun q i wr => ∃ (j : Nat) (us : List Value), j ≤ n ∧ i = .int .i64 j ∧ q = .int .i64 ((k + j : Nat) : Int) ∧ wr.ownsRow base 3 1 (.slice A n c) n us ∧ us.take j = (ints (markN k n)).take j ∧ w.grownBy wr (Value.slice A n c).ownBlock) (fun _ i _ => n - (intOf i).toNat)
  case atStart => exact ⟨0, _, Nat.zero_le _, rfl, rfl, h, rfl, G.out⟩
  case round =>
    obtain ⟨j, us, hj, rfl, rfl, hown, htk, hg⟩ := hrel
    by_cases hlt : j < n
    · obtain ⟨g, rfl, _, _⟩ : ∃ g, A = some ⟨g, 0, none⟩ ∧ base ≤ g ∧ g < w.heap.size := by
        rcases h3 with rfl | h3
        · rcases h.2 with ⟨_, h0⟩ | ⟨g, cap, cur, hv, _⟩
          · omega
          · cases hv
        · exact h3
      obtain ⟨old, ho, hcell⟩ := own_old (k := j) hown (show j < n * 1 by omega)
      have hfr := hown.frozenAt j
      have R1 := hown.stored j (.int .i64 ((k + j : Nat) : Int))
      have R2 := take_set_snoc htk (by have := hown.1; omega) (markN_at (k := k) hlt)
      have R := hid (And.intro R1.1 (And.intro R2 (hg.trans R1.2)))
      clear R1 R2 ho htk hg hown h h3 G
      go_wp2
      go_roundw
      case rel => exact ⟨j + 1, _, by omega, by go_num, by go_num, R.out.1, R.out.2.1, R.out.2.2⟩
      case measure => simp [intOf]; omega
    · obtain rfl : j = n := by omega
      have R : us = ints (markN k j) := by
        have h1 := hown.1
        rw [List.take_of_length_le (by omega), List.take_of_length_le (by simp [ints, markN_length])] at htk
        exact htk
      subst R
      have R := hid (And.intro hown hg)
      clear hown hg htk h h3 G
      go_wp2
      go_ret
      exact ⟨rfl, R.out⟩

theorem markIntS_any (A : Option Addr) (n c : Nat) (q : Int) (k : Nat) (hq : q = (k : Int)) (vs : List Value) (base : Nat) (w : World) (h : w.ownsRow base 3 1 (.slice A n c) n vs) (hn : n ≤ 1048576) (hk : k ≤ 4294967296) :
    Calls Tryd.prog 59 #[.slice A n c, .int .i64 q] w fun e w' => e = .returned (.int .i64 ((k + n : Nat) : Int)) ∧ w'.ownsRow base 3 1 (.slice A n c) n (ints (markN k n)) ∧ w.grownBy w' (Value.slice A n c).ownBlock := by
  subst hq; exact markIntS_nat A n c k vs base w h hn hk

theorem heldIntS_nat (A : Option Addr) (n c k : Nat) (w : World) (h : Sl w A n c 1 (ints (markN k n))) (hn : n ≤ 1048576) (hk : k ≤ 4294967296) :
    Calls Tryd.prog 61 #[.slice A n c, .int .i64 k] w fun e w' => e = .returned (.int .i64 ((k + n : Nat) : Int)) ∧ w = w' := by
  go_enter Tryd.func61, Tryd.ntmps61
  go_wp2
  go_loop [1, 5] (fun q i => ∃ j : Nat, j ≤ n ∧ i = .int .i64 j ∧ q = .int .i64 ((k + j : Nat) : Int)) (fun _ i => n - (intOf i).toNat)
  case atStart => exact ⟨0, Nat.zero_le _, rfl, rfl⟩
  case round =>
    obtain ⟨j, hj, rfl, rfl⟩ := hrel
    by_cases hlt : j < n
    · obtain ⟨ad, rfl, hsee⟩ := h.see.ad (k := j) (by rw [h.len]; omega)
      have hc := hsee j _ (markN_at (k := k) hlt)
      clear hsee h
      go_wp2
      go_round
      case rel => exact ⟨j + 1, by omega, by go_num, by go_num⟩
      case measure => simp [intOf]; omega
    · obtain rfl : j = n := by omega
      go_wp2
      go_ret
      exact ⟨rfl, rfl⟩
theorem heldIntS_any (A : Option Addr) (n c : Nat) (q : Int) (k : Nat) (hq : q = (k : Int)) (w : World) (h : Sl w A n c 1 (ints (markN k n))) (hn : n ≤ 1048576) (hk : k ≤ 4294967296) :
    Calls Tryd.prog 61 #[.slice A n c, .int .i64 q] w fun e w' => e = .returned (.int .i64 ((k + n : Nat) : Int)) ∧ w = w' := by
  subst hq; exact heldIntS_nat A n c k w h hn hk
end Go.Proofs.YtoagpfdhbcgdcaaDoor
end
section
/- The contracts of the draws that every law shares: the reader is opened; one in n; a page's size. -/
namespace Go.Proofs.YtoagpfdhbcgdcaaDoor
open Go.RowKit
set_option linter.unusedVariables false

/-- The reader has picked at most k times more; nothing else that was there has turned. -/
def Turn (w w' : World) (g p k : Nat) : Prop := ∃ p', p ≤ p' ∧ p' ≤ p + k ∧ Rd w' g p' ∧ w.grownBy w' (some g)

theorem Rd.alloc {w : World} {g p : Nat} (h : Rd w g p) (o : Obj) : Rd (w.alloc o) g p := h.below ((Below.refl _ _).alloc (Nat.le_refl _) o)
theorem Rd.new (w : World) (A : Option Addr) (n c : Nat) (xs : List Int) (hs : Sl w A n c 1 (bytes xs)) (hx : ∀ x ∈ xs, 0 ≤ x ∧ x ≤ 255) (hn : n ≤ 2000) :
    Rd (w.alloc (.cells #[.slice A n c, .int .i64 0] 89)) w.heap.size 0 :=
  ⟨A, n, c, xs, heap_alloc_new w _, hs.alloc _, hx, hn, fun hv ad ha => by obtain ⟨ad', h1, h2⟩ := hs.see.lt hv; rw [ha] at h1; injection h1 with h1; subst h1; exact h2⟩

theorem open_any (A : Option Addr) (n c : Nat) (xs : List Int) (w : World) (hs : Sl w A n c 1 (bytes xs)) (hx : ∀ x ∈ xs, 0 ≤ x ∧ x ≤ 255) :
    Calls Tryd.prog 27 #[.slice A n c] w fun e w' => e = .returned (.pointer (some ⟨w.heap.size, 0, none⟩)) ∧ Rd w' w.heap.size 0 ∧ Below w.heap.size w w' := by
  have hmax := hs.max
  have hcap := hs.cap
  unfold maxLen at hmax
  by_cases hn : 2000 < n
  · have R := hid (Rd.new w A 2000 c (xs.take 2000) (by have := hs.sub0 (m := 2000) (by omega); simpa [bytes, List.map_take] using this) (fun x h => hx x (List.mem_of_mem_take h)) (by omega))
    clear hs hx
    go_enter Tryd.func27, Tryd.ntmps27
    go_wp2
    go_ret
    exact ⟨rfl, R.out, (Below.refl _ _).alloc (Nat.le_refl _) _⟩
  · have R := hid (Rd.new w A n c xs hs hx (by omega))
    clear hs hx
    go_enter Tryd.func27, Tryd.ntmps27
    go_wp2
    go_ret
    exact ⟨rfl, R.out, (Below.refl _ _).alloc (Nat.le_refl _) _⟩

theorem Turn.refl {w : World} {g p : Nat} (h : Rd w g p) (k : Nat) : Turn w w g p k := ⟨p, by omega, by omega, h, World.grownBy.refl _ _⟩
theorem odd_pos (g p : Nat) (n : Int) (w : World) (h : Rd w g p) (hp : p ≤ 100000) (h1 : 1 ≤ n) (h2 : n ≤ 1048576) :
    Calls Tryd.prog 63 #[.pointer (some ⟨g, 0, none⟩), .int .i64 n] w fun e w' => ∃ b : Bool, e = .returned (.bool b) ∧ Turn w w' g p 1 := by
  go_enter Tryd.func63, Tryd.ntmps63
  go_wp2_with fail
  refine (pick_any g p n w h hp h1 h2).mono ?_
  rintro e w1 ⟨q, rfl, q0, q1, R, G⟩
  go_wp2
  go_ret
  exact ⟨_, rfl, p + 1, by omega, by omega, R, G⟩
theorem odd_zero (g p : Nat) (w : World) (h : Rd w g p) :
    Calls Tryd.prog 63 #[.pointer (some ⟨g, 0, none⟩), .int .i64 0] w fun e w' => ∃ b : Bool, e = .returned (.bool b) ∧ Turn w w' g p 1 := by
  have T := Turn.refl h 1
  clear h
  go_enter Tryd.func63, Tryd.ntmps63
  go_wp2
  go_ret
  exact ⟨_, rfl, T⟩
theorem odd_any (g p : Nat) (n : Int) (w : World) (h : Rd w g p) (hp : p ≤ 100000) (h1 : 0 ≤ n) (h2 : n ≤ 1048576) :
    Calls Tryd.prog 63 #[.pointer (some ⟨g, 0, none⟩), .int .i64 n] w fun e w' => ∃ b : Bool, e = .returned (.bool b) ∧ Turn w w' g p 1 := by
  by_cases h0 : 1 ≤ n
  · exact odd_pos g p n w h hp h0 h2
  · obtain rfl : n = 0 := by omega
    exact odd_zero g p w h

theorem Turn.below {w w' : World} {g p k : Nat} (h : Turn w w' g p k) {B : Nat} (hg : B ≤ g) (hB : B ≤ w.heap.size) : Below B w w' := by
  obtain ⟨_, _, _, _, G⟩ := h
  exact below_of_grown G hB (by rintro _ ⟨rfl⟩; exact hg)

/-- A literal's block, asked at a place behind a turn of the reader. -/
theorem lit_at {W W' : World} {B g : Nat} {L : List Int} {T : TypeId} (hb : W.heap[B]? = some (.cells (ints L).toArray T (0, 0))) (hg : W.grownBy W' (some g)) (hne : B ≠ g) {q : Int} (h0 : 0 ≤ q) (h1 : q < L.length) :
    ∃ x, x ∈ L ∧ W'.cell? ⟨B, q.toNat, none⟩ = some (.int .i64 x) := by
  have hlt := (Array.getElem?_eq_some_iff.1 hb).1
  have hq : q.toNat < L.length := by omega
  refine ⟨L[q.toNat], by simp, ?_⟩
  rw [cell_of_row W' B q.toNat _ T (0, 0) ((hg.block B hlt (by simpa using hne)).trans hb)]
  simp [ints, hq]
theorem alloc_new {w : World} {B : Nat} {cs : Array Value} {T : TypeId} (hB : B = w.heap.size) : (w.alloc (.cells cs T)).heap[B]? = some (.cells cs T (0, 0)) := by subst hB; exact heap_alloc_new w _
end Go.Proofs.YtoagpfdhbcgdcaaDoor
end
section
/- What is known of the values of a region that draws: numbers, literals, places; and how worlds turn there. -/
namespace Go.Proofs.YtoagpfdhbcgdcaaDoor
open Go.RowKit
set_option linter.unusedVariables false

/-- A number between two others. -/
def IsI (lo hi : Int) (v : Value) : Prop := ∃ q : Int, v = .int .i64 q ∧ lo ≤ q ∧ q ≤ hi
/-- A text of at most k bytes. -/
def IsS (k : Nat) (v : Value) : Prop := ∃ s : ByteArray, v = .string s ∧ s.size ≤ k
def IsB (v : Value) : Prop := ∃ b : Bool, v = .bool b
/-- A literal's slice whose elements are of one kind, behind the reader's block. -/
def IsLit (g r n : Nat) (Pr : Value → Prop) (T : TypeId) (v : Value) (w : World) : Prop := ∃ (B : Nat) (L : List Value), v = .slice (some ⟨B, 0, none⟩) n n ∧ g < B ∧ r < B ∧ w.heap[B]? = some (.cells L.toArray T (0, 0)) ∧ L.length = n ∧ ∀ x ∈ L, Pr x
/-- A place in such a literal. -/
def IsAt (g r : Nat) (Pr : Value → Prop) (v : Value) (w : World) : Prop := ∃ (B i : Nat) (x : Value), v = .pointer (some ⟨B, i, none⟩) ∧ g < B ∧ r < B ∧ w.cell? ⟨B, i, none⟩ = some x ∧ Pr x
/-- Blocks come, and only two of the elder ones turn: the reader's and the result's. -/
structure Kept (g r : Nat) (w w' : World) : Prop where
  os : w'.os = w.os
  tape : w'.tape = w.tape
  output : w'.output = w.output
  size : w.heap.size ≤ w'.heap.size
  block : ∀ k, k < w.heap.size → k ≠ g → k ≠ r → w'.heap[k]? = w.heap[k]?
theorem Kept.refl (g r : Nat) (w : World) : Kept g r w w := ⟨rfl, rfl, rfl, Nat.le_refl _, fun _ _ _ _ => rfl⟩
theorem Kept.trans {g r : Nat} {a b c : World} (h : Kept g r a b) (h' : Kept g r b c) : Kept g r a c :=
  ⟨h'.os.trans h.os, h'.tape.trans h.tape, h'.output.trans h.output, Nat.le_trans h.size h'.size, fun k hk h1 h2 => (h'.block k (Nat.lt_of_lt_of_le hk h.size) h1 h2).trans (h.block k hk h1 h2)⟩
theorem Kept.of {g r : Nat} {a b : World} (h : a.grownBy b (some g)) : Kept g r a b := ⟨h.os, h.tape, h.output, h.size, fun k hk h1 _ => h.block k hk (fun e => h1 (by injection e with e))⟩
theorem Kept.alloc (g r : Nat) (w : World) (o : Obj) : Kept g r w (w.alloc o) := .of (World.grownBy_alloc _ _ _)
theorem Kept.drew (g r : Nat) (w : World) : Kept g r w w.drew := ⟨rfl, rfl, rfl, Nat.le_refl _, fun _ _ _ _ => rfl⟩
theorem Kept.below {g r : Nat} {a b : World} (h : Kept g r a b) {B : Nat} (hg : B ≤ g) (hr : B ≤ r) (hB : B ≤ a.heap.size) : Below B a b :=
  ⟨h.os, h.tape, h.output, h.size, fun k hk => h.block k (by omega) (by omega) (by omega)⟩
theorem IsLit.kept {g r n : Nat} {Pr : Value → Prop} {T : TypeId} {v : Value} {w w' : World} (h : IsLit g r n Pr T v w) (hg : Kept g r w w') : IsLit g r n Pr T v w' := by
  obtain ⟨B, L, rfl, hB, hr, hb, e⟩ := h
  exact ⟨B, L, rfl, hB, hr, (hg.block B (Array.getElem?_eq_some_iff.1 hb).1 (by omega) (by omega)).trans hb, e⟩
theorem cell_same {w w' : World} {p : Addr} (h : w'.heap[p.block]? = w.heap[p.block]?) : w'.cell? p = w.cell? p := by
  unfold World.cell?; rw [h]
theorem IsAt.kept {g r : Nat} {Pr : Value → Prop} {v : Value} {w w' : World} (h : IsAt g r Pr v w) (hg : Kept g r w w') : IsAt g r Pr v w' := by
  obtain ⟨B, i, x, rfl, hB, hr, hb, e⟩ := h
  have hlt : B < w.heap.size := by
    apply Classical.byContradiction
    intro hn
    have : w.cell? ⟨B, i, none⟩ = none := by unfold World.cell?; rw [Array.getElem?_eq_none (by show w.heap.size ≤ B; omega)]
    rw [this] at hb; cases hb
  exact ⟨B, i, x, rfl, hB, hr, (cell_same (p := ⟨B, i, none⟩) (hg.block B hlt (by omega) (by omega))).trans hb, e⟩
theorem IsLit.at {g r n : Nat} {Pr : Value → Prop} {T : TypeId} {v : Value} {w : World} (h : IsLit g r n Pr T v w) {q : Int} (h0 : 0 ≤ q) (h1 : q < n) : ∃ B, v = .slice (some ⟨B, 0, none⟩) n n ∧ IsAt g r Pr (.pointer (some ⟨B, q.toNat, none⟩)) w := by
  obtain ⟨B, L, rfl, hB, hr, hb, hl, e⟩ := h
  have hq : q.toNat < L.length := by omega
  refine ⟨B, rfl, B, q.toNat, L[q.toNat], rfl, hB, hr, ?_, e _ (by simp)⟩
  rw [cell_of_row w B q.toNat _ T (0, 0) hb]
  simp [hq]
end Go.Proofs.YtoagpfdhbcgdcaaDoor
end
section
/- The contracts of the draws of words and of handles. -/
namespace Go.Proofs.YtoagpfdhbcgdcaaDoor
open Go.RowKit
set_option linter.unusedVariables false
set_option linter.unusedSimpArgs false
theorem litS_at {W W' : World} {B g : Nat} {L : List ByteArray} {T : TypeId} (hb : W.heap[B]? = some (.cells (L.map Value.string).toArray T (0, 0))) (hg : W.grownBy W' (some g)) (hne : B ≠ g) {q : Int} (h0 : 0 ≤ q) (h1 : q < L.length) :
    ∃ x, x ∈ L ∧ W'.cell? ⟨B, q.toNat, none⟩ = some (.string x) := by
  have hlt := (Array.getElem?_eq_some_iff.1 hb).1
  have hq : q.toNat < L.length := by omega
  refine ⟨L[q.toNat], by simp, ?_⟩
  rw [cell_of_row W' B q.toNat _ T (0, 0) ((hg.block B hlt (by simpa using hne)).trans hb)]
  simp [hq]
theorem Turn.mk' {w w' : World} {g p p' k : Nat} (h1 : p ≤ p') (h2 : p' ≤ p + k) (R : Rd w' g p') (G : w.grownBy w' (some g)) : Turn w w' g p k := ⟨p', h1, h2, R, G⟩
theorem kept_store {g r : Nat} {a b : World} (h : a.grownBy b (some r)) : Kept g r a b := ⟨h.os, h.tape, h.output, h.size, fun k hk _ h2 => h.block k hk (fun e => h2 (by injection e with e))⟩
theorem kept_turn {g r : Nat} {w W0 w' : World} (G : w.grownBy W0 (some g)) (K : Kept g r W0 w') (hr : w.heap.size ≤ r) : w.grownBy w' (some g) :=
  ⟨K.os.trans G.os, K.tape.trans G.tape, K.output.trans G.output, Nat.le_trans G.size K.size, fun k hk hne => (K.block k (Nat.lt_of_lt_of_le hk G.size) (fun e => hne (by rw [e])) (by omega)).trans (G.block k hk hne)⟩
/-- Two stores into a block of two cells. -/
theorem row2 {w : World} {r : Nat} {x y a b : Value} {T : TypeId} (hz : w.heap[r]? = some (.cells #[x, y] T (0, 0))) :
    ((w.setCell ⟨r, 0, none⟩ a).setCell ⟨r, 1, none⟩ b).heap[r]? = some (.cells #[a, b] T (0, 0)) ∧ w.grownBy ((w.setCell ⟨r, 0, none⟩ a).setCell ⟨r, 1, none⟩ b) (some r) := by
  have h1 := heap_setCell_same w r 0 _ T a hz
  have h2 := heap_setCell_same _ r 1 _ T b h1
  refine ⟨by simpa using h2, rfl, rfl, rfl, by simp, fun k _ hk' => ?_⟩
  have hk : k ≠ r := fun e => hk' (by rw [e])
  rw [heap_setCell_other _ ⟨r, 1, none⟩ k _ hk, heap_setCell_other _ ⟨r, 0, none⟩ k _ hk]
def IsHd (v : Value) : Prop := ∃ a b : ByteArray, v = hdA a b ∧ a.size ≤ 200 ∧ b.size ≤ 200
def HdAt (r : Nat) (T : TypeId) (w : World) : Prop := ∃ a b : ByteArray, w.heap[r]? = some (.cells #[.string a, .string b] T (0, 0)) ∧ a.size ≤ 200 ∧ b.size ≤ 200
theorem HdAt.grown {r : Nat} {T : TypeId} {w w' : World} (h : HdAt r T w) {row : Option Nat} (hg : w.grownBy w' row) (hne : row ≠ some r) : HdAt r T w' := by
  obtain ⟨a, b, hb, h1, h2⟩ := h
  exact ⟨a, b, (hg.block r (Array.getElem?_eq_some_iff.1 hb).1 (fun e => hne e.symm)).trans hb, h1, h2⟩
theorem word_any (g p : Nat) (n : Int) (w : World) (h : Rd w g p) (hp : p ≤ 90000) (h1 : 0 ≤ n) (h2 : n ≤ 1048576) :
    Calls Tryd.prog 96 #[.pointer (some ⟨g, 0, none⟩), .int .i64 n] w fun e w' => ∃ s : ByteArray, e = .returned (.string s) ∧ s.size ≤ 9 ∧ Turn w w' g p 2 := by
  go_enter Tryd.func96, Tryd.ntmps96
  go_wp2_with fail
  refine (odd_any g p n _ h (by omega) h1 h2).mono ?_
  rintro e' w1 ⟨o, rfl, p1, q0, q1, R1, G1⟩
  have hgl := R1.lt
  cases o with
  | true =>
    go_wp2_with fail
    refine (pick_any g p1 5 _ (R1.alloc _) (by omega) (by omega) (by omega)).mono ?_
    rintro e' w2 ⟨q, rfl, t0, t1, R2, G2⟩
    obtain ⟨x, hx, cx⟩ := litS_at (B := w1.heap.size) (L := [⟨#[]⟩, ⟨#[49, 97]⟩, ⟨#[65]⟩, ⟨#[97, 32, 98]⟩, ⟨#[97, 98, 99, 100, 101, 102, 103, 104, 105]⟩]) (alloc_new' rfl) G2 (by omega) t0 (by simpa using t1)
    have hs : x.size ≤ 9 := by simp at hx; rcases hx with rfl | rfl | rfl | rfl | rfl <;> decide
    have T : Turn w w2 g p 2 := Turn.mk' (p' := p1 + 1) (by omega) (by omega) R2 (G1.trans ((World.grownBy_alloc _ _ _).trans G2))
    clear hx R1 R2 G1 G2 h
    go_wp2_with fail
    go_ret
    exact ⟨x, rfl, hs, T⟩
  | false =>
    go_wp2_with fail
    refine (pick_any g p1 6 _ (R1.alloc _) (by omega) (by omega) (by omega)).mono ?_
    rintro e' w2 ⟨q, rfl, t0, t1, R2, G2⟩
    obtain ⟨x, hx, cx⟩ := litS_at (B := w1.heap.size) (L := [⟨#[97, 110, 110]⟩, ⟨#[98, 111, 98]⟩, ⟨#[114, 101, 100]⟩, ⟨#[115, 101, 97]⟩, ⟨#[107, 49]⟩, ⟨#[107, 50]⟩]) (alloc_new' rfl) G2 (by omega) t0 (by simpa using t1)
    have hs : x.size ≤ 9 := by simp at hx; rcases hx with rfl | rfl | rfl | rfl | rfl | rfl <;> decide
    have T : Turn w w2 g p 2 := Turn.mk' (p' := p1 + 1) (by omega) (by omega) R2 (G1.trans ((World.grownBy_alloc _ _ _).trans G2))
    clear hx R1 R2 G1 G2 h
    go_wp2_with fail
    go_ret
    exact ⟨x, rfl, hs, T⟩
set_option maxRecDepth 4000 in
theorem handle_any (g p : Nat) (n : Int) (w : World) (h : Rd w g p) (hp : p ≤ 80000) (h1 : 0 ≤ n) (h2 : n ≤ 1048576) :
    Calls Tryd.prog 67 #[.pointer (some ⟨g, 0, none⟩), .int .i64 n] w fun e w' => ∃ a b : ByteArray, e = .returned (hdA a b) ∧ a.size ≤ 200 ∧ b.size ≤ 200 ∧ Turn w w' g 0 (p + 40) := by
  have hgr := h.lt
  go_enter Tryd.func67, Tryd.ntmps67
  go_wp2
  have R0 := h.alloc (.cells #[.string ⟨#[]⟩, .string ⟨#[]⟩] 28)
  have hz0 : HdAt w.heap.size 28 (w.alloc (.cells #[.string ⟨#[]⟩, .string ⟨#[]⟩] 28)) := ⟨_, _, alloc_new' rfl, by decide, by decide⟩
  have G0 : w.grownBy (w.alloc (.cells #[.string ⟨#[]⟩, .string ⟨#[]⟩] 28)) (some g) := World.grownBy_alloc _ _ _
  generalize hW0 : w.alloc (.cells #[.string ⟨#[]⟩, .string ⟨#[]⟩] 28) = W0 at *
  have hzs : w.heap.size < W0.heap.size := by rw [← hW0]; simp
  clear hW0
  have hne : (some g : Option Nat) ≠ some w.heap.size := by intro e; injection e with e; omega
  have next : ∀ k w', (fun k w' => ∃ p', p' ≤ p + 2 * k ∧ Rd w' g p' ∧ Kept g w.heap.size W0 w' ∧ HdAt w.heap.size 28 w') k w' → (fun k w' => ∃ p', p' ≤ p + 2 * k ∧ Rd w' g p' ∧ Kept g w.heap.size W0 w' ∧ HdAt w.heap.size 28 w') (k + 1) w' := fun k w' ⟨p', hp, h⟩ => ⟨p', by omega, h⟩
  refine wp_region_steps (W := fun k w' => ∃ p', p' ≤ p + 2 * k ∧ Rd w' g p' ∧ Kept g w.heap.size W0 w' ∧ HdAt w.heap.size 28 w') (Tr := fun a b => Kept g w.heap.size a b) (F := fun i v w' => match i with
      | 0 => v = .pointer (some ⟨g, 0, none⟩)
      | 1 => v = .int .i64 n
      | 2 => IsS 200 v
      | 3 => IsLit g w.heap.size 4 (IsS 200) 9 v w'
      | 4 => v = .pointer (some ⟨g, 0, none⟩)
      | 5 => IsI 0 3 v
      | 6 => IsAt g w.heap.size (IsS 200) v w'
      | 7 => IsS 200 v
      | 8 => v = .pointer (some ⟨g, 0, none⟩)
      | 9 => v = .int .i64 n
      | 10 => IsS 200 v
      | 11 => IsLit g w.heap.size 3 (IsS 200) 9 v w'
      | 12 => v = .pointer (some ⟨g, 0, none⟩)
      | 13 => IsI 0 2 v
      | 14 => IsAt g w.heap.size (IsS 200) v w'
      | 15 => IsS 200 v
      | 16 => IsHd v
      | _ => True) (by kernel_rfl) (by kernel_rfl) ?_ ?_ ?_ ?_
  · exact ⟨p, by omega, R0.drewN 1, Kept.drew _ _ _, hz0⟩
  · intro k a b i v hW hT hF
    match i with
    | 0 => exact hF
    | 1 => exact hF
    | 2 => exact hF
    | 3 => exact IsLit.kept hF hT
    | 4 => exact hF
    | 5 => exact hF
    | 6 => exact IsAt.kept hF hT
    | 7 => exact hF
    | 8 => exact hF
    | 9 => exact hF
    | 10 => exact hF
    | 11 => exact IsLit.kept hF hT
    | 12 => exact hF
    | 13 => exact hF
    | 14 => exact IsAt.kept hF hT
    | 15 => exact hF
    | 16 => exact hF
    | 17 => exact hF
    | _ + 18 => trivial
  · refine ⟨fun k ρ u hk hc hf hb hW hd => ?_, ?_⟩
    · have hk : k < 18 := hk
      exact yield_move _ rfl ⟨hb 0 (by kernel_rfl), next _ _ hW, Kept.refl _ _ _⟩
    refine ⟨fun k ρ u hk hc hf hb hW hd => ?_, ?_⟩
    · have hk : k < 18 := hk
      exact yield_move _ rfl ⟨hb 1 (by kernel_rfl), next _ _ hW, Kept.refl _ _ _⟩
    refine ⟨fun k ρ u hk hc hf hb hW hd => ?_, ?_⟩
    · have hk : k < 18 := hk
      have e0 : (ρ (.tmp 5)) = .pointer (some ⟨g, 0, none⟩) := hd.1 rfl rfl
      have e1 : (ρ (.tmp 6)) = .int .i64 n := hd.2.1 rfl rfl
      obtain ⟨p', hp, hR, hG⟩ := hW
      clear hd hb
      refine yield_call 96 #[.pointer (some ⟨g, 0, none⟩), .int .i64 n] (by simp [go_sem, hc, hf, e0, e1]) ?_
      refine (word_any _ _ _ _ hR (by omega) h1 h2 ).mono ?_
      rintro e w3 ⟨s, rfl, hs, p3, q0, q1, R3, G3⟩
      exact ⟨_, rfl, ⟨s, rfl, by omega⟩, ⟨p3, by omega, R3, ⟨hG.1.trans (.of G3), hG.2.grown G3 hne⟩⟩, .of G3⟩
    refine ⟨fun k ρ u hk hc hf hb hW hd => ?_, ?_⟩
    · have hk : k < 18 := hk
      obtain ⟨q3, e3, l3⟩ : IsS 200 (ρ (.tmp 7)) := hd.1 rfl rfl
      obtain ⟨p', hp, hR, hG⟩ := hW
      have hz' := hG.1.size
      have hz := hR.lt
      clear hd hb
      refine yield_value (w' := u.alloc (.cells #[Value.string { data := #[97, 110, 110] }, Value.string { data := #[98, 111, 98] }, Value.string { data := #[101, 118, 101] }, .string q3] 9)) (.slice (some ⟨u.heap.size, 0, none⟩) 4 4) (by simp [go_sem, hc, hf, e3]) ⟨⟨u.heap.size, [Value.string { data := #[97, 110, 110] }, Value.string { data := #[98, 111, 98] }, Value.string { data := #[101, 118, 101] }, .string q3], rfl, by omega, by omega, alloc_new rfl, rfl, ?_⟩, ⟨p', by omega, hR.alloc _, ⟨hG.1.trans (Kept.alloc _ _ _ _), hG.2.grown (World.grownBy_alloc _ _ (some g)) hne⟩⟩, Kept.alloc _ _ _ _⟩
      simp only [List.forall_mem_cons]
      exact ⟨⟨_, rfl, by first | decide | omega⟩, ⟨_, rfl, by first | decide | omega⟩, ⟨_, rfl, by first | decide | omega⟩, ⟨_, rfl, by first | decide | omega⟩, fun _ h => by cases h⟩
    refine ⟨fun k ρ u hk hc hf hb hW hd => ?_, ?_⟩
    · have hk : k < 18 := hk
      exact yield_move _ rfl ⟨hb 0 (by kernel_rfl), next _ _ hW, Kept.refl _ _ _⟩
    refine ⟨fun k ρ u hk hc hf hb hW hd => ?_, ?_⟩
    · have hk : k < 18 := hk
      have e0 : (ρ (.tmp 9)) = .pointer (some ⟨g, 0, none⟩) := hd.1 rfl rfl
      obtain ⟨p', hp, hR, hG⟩ := hW
      clear hd hb
      refine yield_call 62 #[.pointer (some ⟨g, 0, none⟩), .int .i64 4] (by simp [go_sem, hc, hf, e0]) ?_
      refine (pick_any _ _ _ _ hR (by omega) (by omega) (by omega) ).mono ?_
      rintro e w3 ⟨q, rfl, q0, q1, R3, G3⟩
      exact ⟨_, rfl, ⟨q, rfl, q0, by omega⟩, ⟨p' + 1, by omega, R3, ⟨hG.1.trans (.of G3), hG.2.grown G3 hne⟩⟩, .of G3⟩
    refine ⟨fun k ρ u hk hc hf hb hW hd => ?_, ?_⟩
    · have hk : k < 18 := hk
      have e0 : IsLit g w.heap.size 4 (IsS 200) 9 (ρ (.tmp 8)) u := hd.1 rfl rfl
      obtain ⟨q1, e1, l1, u1⟩ : IsI 0 3 (ρ (.tmp 10)) := hd.2.1 rfl rfl
      clear hd hb
      obtain ⟨B, eB, hA⟩ := IsLit.at e0 (q := q1) (by omega) (by omega)
      clear e0
      exact yield_value (w' := u) _ (by simp [go_sem, hc, hf, eB, e1, IntWalk.i64_in, show q1 < 4 by omega, l1]) ⟨hA, next _ _ hW, Kept.refl _ _ _⟩
    refine ⟨fun k ρ u hk hc hf hb hW hd => ?_, ?_⟩
    · have hk : k < 18 := hk
      have e0 : IsAt g w.heap.size (IsS 200) (ρ (.tmp 11)) u := hd.1 rfl rfl
      obtain ⟨B, j, x, eB, _, _, hx, hq⟩ := e0
      clear hd hb
      obtain ⟨q, rfl, hq⟩ := hq
      exact yield_value (w' := u) _ (by simp [go_sem, hc, hf, eB, hx]) ⟨⟨q, rfl, hq⟩, next _ _ hW, Kept.refl _ _ _⟩
    refine ⟨fun k ρ u hk hc hf hb hW hd => ?_, ?_⟩
    · have hk : k < 18 := hk
      exact yield_move _ rfl ⟨hb 0 (by kernel_rfl), next _ _ hW, Kept.refl _ _ _⟩
    refine ⟨fun k ρ u hk hc hf hb hW hd => ?_, ?_⟩
    · have hk : k < 18 := hk
      exact yield_move _ rfl ⟨hb 1 (by kernel_rfl), next _ _ hW, Kept.refl _ _ _⟩
    refine ⟨fun k ρ u hk hc hf hb hW hd => ?_, ?_⟩
    · have hk : k < 18 := hk
      have e0 : (ρ (.tmp 13)) = .pointer (some ⟨g, 0, none⟩) := hd.1 rfl rfl
      have e1 : (ρ (.tmp 14)) = .int .i64 n := hd.2.1 rfl rfl
      obtain ⟨p', hp, hR, hG⟩ := hW
      clear hd hb
      refine yield_call 96 #[.pointer (some ⟨g, 0, none⟩), .int .i64 n] (by simp [go_sem, hc, hf, e0, e1]) ?_
      refine (word_any _ _ _ _ hR (by omega) h1 h2 ).mono ?_
      rintro e w3 ⟨s, rfl, hs, p3, q0, q1, R3, G3⟩
      exact ⟨_, rfl, ⟨s, rfl, by omega⟩, ⟨p3, by omega, R3, ⟨hG.1.trans (.of G3), hG.2.grown G3 hne⟩⟩, .of G3⟩
    refine ⟨fun k ρ u hk hc hf hb hW hd => ?_, ?_⟩
    · have hk : k < 18 := hk
      obtain ⟨q2, e2, l2⟩ : IsS 200 (ρ (.tmp 15)) := hd.1 rfl rfl
      obtain ⟨p', hp, hR, hG⟩ := hW
      have hz' := hG.1.size
      have hz := hR.lt
      clear hd hb
      refine yield_value (w' := u.alloc (.cells #[Value.string { data := #[114, 101, 100] }, Value.string { data := #[115, 101, 97] }, .string q2] 9)) (.slice (some ⟨u.heap.size, 0, none⟩) 3 3) (by simp [go_sem, hc, hf, e2]) ⟨⟨u.heap.size, [Value.string { data := #[114, 101, 100] }, Value.string { data := #[115, 101, 97] }, .string q2], rfl, by omega, by omega, alloc_new rfl, rfl, ?_⟩, ⟨p', by omega, hR.alloc _, ⟨hG.1.trans (Kept.alloc _ _ _ _), hG.2.grown (World.grownBy_alloc _ _ (some g)) hne⟩⟩, Kept.alloc _ _ _ _⟩
      simp only [List.forall_mem_cons]
      exact ⟨⟨_, rfl, by first | decide | omega⟩, ⟨_, rfl, by first | decide | omega⟩, ⟨_, rfl, by first | decide | omega⟩, fun _ h => by cases h⟩
    refine ⟨fun k ρ u hk hc hf hb hW hd => ?_, ?_⟩
    · have hk : k < 18 := hk
      exact yield_move _ rfl ⟨hb 0 (by kernel_rfl), next _ _ hW, Kept.refl _ _ _⟩
    refine ⟨fun k ρ u hk hc hf hb hW hd => ?_, ?_⟩
    · have hk : k < 18 := hk
      have e0 : (ρ (.tmp 17)) = .pointer (some ⟨g, 0, none⟩) := hd.1 rfl rfl
      obtain ⟨p', hp, hR, hG⟩ := hW
      clear hd hb
      refine yield_call 62 #[.pointer (some ⟨g, 0, none⟩), .int .i64 3] (by simp [go_sem, hc, hf, e0]) ?_
      refine (pick_any _ _ _ _ hR (by omega) (by omega) (by omega) ).mono ?_
      rintro e w3 ⟨q, rfl, q0, q1, R3, G3⟩
      exact ⟨_, rfl, ⟨q, rfl, q0, by omega⟩, ⟨p' + 1, by omega, R3, ⟨hG.1.trans (.of G3), hG.2.grown G3 hne⟩⟩, .of G3⟩
    refine ⟨fun k ρ u hk hc hf hb hW hd => ?_, ?_⟩
    · have hk : k < 18 := hk
      have e0 : IsLit g w.heap.size 3 (IsS 200) 9 (ρ (.tmp 16)) u := hd.1 rfl rfl
      obtain ⟨q1, e1, l1, u1⟩ : IsI 0 2 (ρ (.tmp 18)) := hd.2.1 rfl rfl
      clear hd hb
      obtain ⟨B, eB, hA⟩ := IsLit.at e0 (q := q1) (by omega) (by omega)
      clear e0
      exact yield_value (w' := u) _ (by simp [go_sem, hc, hf, eB, e1, IntWalk.i64_in, show q1 < 3 by omega, l1]) ⟨hA, next _ _ hW, Kept.refl _ _ _⟩
    refine ⟨fun k ρ u hk hc hf hb hW hd => ?_, ?_⟩
    · have hk : k < 18 := hk
      have e0 : IsAt g w.heap.size (IsS 200) (ρ (.tmp 19)) u := hd.1 rfl rfl
      obtain ⟨B, j, x, eB, _, _, hx, hq⟩ := e0
      clear hd hb
      obtain ⟨q, rfl, hq⟩ := hq
      exact yield_value (w' := u) _ (by simp [go_sem, hc, hf, eB, hx]) ⟨⟨q, rfl, hq⟩, next _ _ hW, Kept.refl _ _ _⟩
    refine ⟨fun k ρ u hk hc hf hb hW hd => ?_, ?_⟩
    · have hk : k < 18 := hk
      obtain ⟨q0, e0, l0⟩ : IsS 200 (ρ (.tmp 12)) := hd.1 rfl rfl
      obtain ⟨q1, e1, l1⟩ : IsS 200 (ρ (.tmp 20)) := hd.2.1 rfl rfl
      clear hd hb
      exact yield_value (w' := u) (.agg #[.string q0, .string q1]) (by simp [go_sem, hc, hf, e0, e1]) ⟨⟨_, _, rfl, l0, l1⟩, next _ _ hW, Kept.refl _ _ _⟩
    refine ⟨fun k ρ u hk hc hf hb hW hd => ?_, ?_⟩
    · have hk : k < 18 := hk
      have e0 : (ρ (.tmp 4)) = .pointer (some ⟨w.heap.size, 0, none⟩) := hb 4 (by kernel_rfl)
      have e1 : IsHd (ρ (.tmp 21)) := hd.1 rfl rfl
      obtain ⟨a, b, e1, ha, hb'⟩ := e1
      obtain ⟨p', hp, hR, hG, x, y, hX, _⟩ := hW
      have f0 := frozen_of_row u w.heap.size 0 _ _ hX
      have f1 := frozen_of_row u w.heap.size 1 _ _ hX
      have z0 := cell_of_row u w.heap.size 0 _ _ _ hX
      have z1 := cell_of_row u w.heap.size 1 _ _ _ hX
      have ks := row2 (a := .string a) (b := .string b) hX
      clear hd hb
      unfold Yield
      simp [go_sem, hc, hf, e0, e1, f0, f1, z0, z1]
      exact ⟨⟨p', by omega, hR.grown ks.2 (by rintro _ ⟨rfl⟩; exact hgr), hG.trans (kept_store ks.2), ⟨a, b, ks.1, ha, hb'⟩⟩, kept_store ks.2⟩
    trivial
  intro env w' hW hF
  obtain ⟨p', hp, hR, hG, hX⟩ := hW
  replace hp : p' ≤ p + 2 * 18 := hp
  clear hF next
  have hr : List.range 22 = [0, 1, 2, 3, 4, 5, 6, 7, 8, 9, 10, 11, 12, 13, 14, 15, 16, 17, 18, 19, 20, 21] := rfl
  unfold after
  simp only [List.size_toArray, List.length_cons, List.length_nil, Nat.reduceAdd, hr, List.map_cons, List.map_nil]
  simp [idxOf, List.findIdx?, List.findIdx?.go, ]
  clear hr
  obtain ⟨a, b, hX, ha, hb⟩ := hX
  have v0 := cell_of_row w' w.heap.size 0 _ _ _ hX
  have v1 := cell_of_row w' w.heap.size 1 _ _ _ hX
  go_wp2
  exact bodyPost_ret (v := hdA a b) (by simp [results, Tryd.results67, go_sem, v0, v1]) rfl ⟨a, b, rfl, ha, hb, Turn.mk' (by omega) (by omega) hR (kept_turn G0 hG (Nat.le_refl _))⟩
end Go.Proofs.YtoagpfdhbcgdcaaDoor
end
section
/- A region that draws its order, with facts that end: 'dead i j' says that behind operation i nobody asks for what operation j yielded. -/
namespace Go.Proofs.YtoagpfdhbcgdcaaDoor
open Go Go.RowKit

/-- Operation i' has come up before operation i does. -/
def ancB (l : List Oper) : Nat → Nat → Nat → Bool
  | 0, _, _ => false
  | f + 1, i, i' => match l[i]? with
    | some o => o.after.any fun e => Region.binds .any e && (e.on == i' || ancB l f e.on i')
    | none => false
/-- An edge along which a value goes. -/
def dataB (e : Edge) : Bool := Region.binds .any e && (match e.ground with | .data => true | _ => false)
theorem dataB_binds {e : Edge} (h : dataB e = true) : Region.binds .any e = true := by unfold dataB at h; simp at h; exact h.1
/-- Whoever leans on j is i, or has come up before i. -/
def okDead (l : List Oper) (dead : Nat → Nat → Bool) : Bool :=
  (List.range l.length).all fun i => (List.range l.length).all fun j => !dead i j || (List.range l.length).all fun i' => match l[i']? with
    | some o => !(o.after.any fun e => dataB e && e.on == j) || i' == i || ancB l l.length i i'
    | none => true

section
variable {P : Program} {l : List Oper} {a0 : Act} {W : Nat → World → Prop} {Tr : Nat → World → World → Prop} {F : Nat → Value → World → Prop} {dead : Nat → Nat → Bool}
abbrev Inv0 (l : List Oper) (a0 : Act) (W : Nat → World → Prop) (L : Array Bool) (env : Nat → Value) (a : Act) (w : World) : Prop := Inv l a0 W (fun _ _ _ => True) L env a w
def Closed (l : List Oper) (L : Nat → Bool) : Prop := ∀ i o, l[i]? = some o → L i = true → ∀ e ∈ o.after.toList, Region.binds .any e = true → L e.on = true
theorem closed_anc {L : Nat → Bool} (h : Closed l L) : ∀ (f i i' : Nat), ancB l f i i' = true → L i = true → L i' = true := by
  intro f
  induction f with
  | zero => intro i i' h; simp [ancB] at h
  | succ f ih =>
    intro i i' ha hi
    unfold ancB at ha
    cases ho : l[i]? with
    | none => rw [ho] at ha; simp at ha
    | some o =>
      rw [ho] at ha
      simp only [Array.any_eq_true', Bool.and_eq_true, Bool.or_eq_true, beq_iff_eq] at ha
      obtain ⟨e, he, hb, h2⟩ := ha
      have hl := h i o ho hi e (by simpa using he) hb
      rcases h2 with h2 | h2
      · rw [← h2]; exact hl
      · exact ih _ _ h2 hl
theorem okDead_at (h : okDead l dead = true) {i j i' : Nat} {o : Oper} (hi : i < l.length) (hj : j < l.length) (hd : dead i j = true) (ho : l[i']? = some o) {e : Edge} (he : e ∈ o.after.toList) (hb : dataB e = true) (hon : e.on = j) : i' = i ∨ ancB l l.length i i' = true := by
  unfold okDead at h
  have h1 := (List.all_eq_true.1 ((List.all_eq_true.1 h) i (List.mem_range.2 hi))) j (List.mem_range.2 hj)
  rw [hd] at h1
  simp only [Bool.not_true, Bool.false_or] at h1
  have h2 := (List.all_eq_true.1 h1) i' (List.mem_range.2 (List.getElem?_eq_some_iff.1 ho).1)
  rw [ho] at h2
  simp only [Bool.or_eq_true, beq_iff_eq, Bool.not_eq_true'] at h2
  rcases h2 with (h2 | h2) | h2
  · exfalso
    rw [Array.any_eq_false'] at h2
    have := h2 e (by simpa using he)
    simp [hb, hon] at this
  · exact .inl h2
  · exact .inr h2
def Alive (dead : Nat → Nat → Bool) (L : Nat → Bool) (j : Nat) : Prop := ∀ i, L i = true → dead i j = false
theorem getD_true_lt {L : Array Bool} {i : Nat} (h : L.getD i false = true) : i < L.size := by
  apply Classical.byContradiction
  intro hn
  rw [Array.getD_eq_getD_getElem?, Array.getElem?_eq_none (by omega)] at h
  simp at h
theorem any_of_live {Q : Exit → Act → World → Prop} (hR : okRegion l a0.tmps.size = true) (hD : okDead l dead = true)
    (hst : ∀ i j k w w' v, i < l.length → j < l.length → i ≠ j → dead i j = false → ancB l l.length j i = false → W k w → Tr i w w' → F j v w → F j v w')
    (hstep : ∀ i o, l[i]? = some o → ∀ k env w, k < l.length → W k w → (∀ e ∈ o.after.toList, dataB e = true → F e.on (env e.on) w) → Yield P o (rho l a0 env) w (fun v w' => F i v w' ∧ W (k + 1) w' ∧ Tr i w w'))
    (hfin : ∀ env w, W l.length w → (∀ j, j < l.length → (∀ i, i < l.length → dead i j = false) → F j (env j) w) → Q .normal (after l a0 env) w) :
    ∀ (fuel : Nat) (L : Array Bool) (env : Nat → Value) (a : Act) (w : World), left L ≤ fuel → Inv0 l a0 W L env a w → Closed l (fun i => L.getD i false) →
      (∀ j, L.getD j false = true → Alive dead (fun i => L.getD i false) j → F j (env j) w) → wpAny P .any l.toArray Q fuel L a w := by
  intro fuel
  induction fuel with
  | zero =>
    intro L env a w hf h hc hF
    have hall : ∀ i, i < l.length → L.getD i false = true := fun i hi => left_zero (by omega) i (by rw [h.len]; exact hi)
    refine ⟨?_, ?_⟩
    · unfold Region.ready
      rw [List.filter_eq_nil_iff]
      intro i hi
      have hi' : i < l.length := by simpa using hi
      have hiL : i < L.size := by rw [h.len]; exact hi'
      have := hall i hi'
      simp only [Array.getD_eq_getD_getElem?, Array.getElem?_eq_getElem hiL, Option.getD_some] at this ⊢
      simp [this]
    · rw [inv_after h hall]
      exact hfin env w (by have := h.world; rwa [left_none h.len hall, Nat.sub_zero] at this) (fun j hj hd => hF j (hall j hj) (fun i hi => hd i (by have := getD_true_lt hi; rwa [h.len] at this)))
  | succ fuel ih =>
    intro L env a w hf h hc hF
    refine ⟨fun hr => ?_, fun i hi => ?_⟩
    · have hall := all_listed h.len hR hr
      rw [inv_after h hall]
      exact hfin env w (by have := h.world; rwa [left_none h.len hall, Nat.sub_zero] at this) (fun j hj hd => hF j (hall j hj) (fun i hi => hd i (by have := getD_true_lt hi; rwa [h.len] at this)))
    · unfold Region.ready at hi
      obtain ⟨h1, h2⟩ := List.mem_filter.1 hi
      have hi' : i < l.length := by simpa using h1
      have ho : l[i]? = some l[i] := by simp
      simp only [List.getElem?_toArray, ho, Option.map_some, Option.getD_some, Bool.and_eq_true, Bool.not_eq_true'] at h2
      obtain ⟨hb, hdep⟩ := h2
      have hdeps : ∀ e ∈ l[i].after.toList, Region.binds .any e = true → L.getD e.on false = true := by
        intro e he hbe
        rw [Array.all_eq_true_iff_forall_mem] at hdep
        have := hdep e (by simpa using he)
        simpa [hbe] using this
      have hiL : i < L.size := by rw [h.len]; exact hi'
      have hbF : L.getD i false = false := by
        simp only [Array.getD_eq_getD_getElem?, Array.getElem?_eq_getElem hiL, Option.getD_some] at hb ⊢; exact hb
      have hok := okRegion_at hR ho
      unfold okOp at hok
      simp only [Bool.and_eq_true] at hok
      have hgd : l[i].guard = none := by simpa using hok.1.1.1.2
      have hlt := left_set hiL hb
      have hle := left_le h.len
      have halive : ∀ e ∈ l[i].after.toList, dataB e = true → F e.on (env e.on) w := by
        intro e he hbd
        have hbe := dataB_binds hbd
        refine hF _ (hdeps e he hbe) fun i' hi'' => ?_
        cases hdd : dead i' e.on with
        | false => rfl
        | true =>
          exfalso
          have hl' : i' < l.length := by have := getD_true_lt hi''; rwa [h.len] at this
          have hj' : e.on < l.length := by have := getD_true_lt (hdeps e he hbe); rwa [h.len] at this
          rcases okDead_at hD hl' hj' hdd ho he hbd rfl with rfl | ha
          · have hx : L.getD _ false = true := hi''
            rw [hbF] at hx; cases hx
          · have hx : L.getD i false = true := closed_anc hc _ _ _ ha hi''
            rw [hbF] at hx; cases hx
      have hy := hstep i l[i] ho _ env w (by omega) h.world halive
      have hy' : Yield P l[i] a.eval w (fun v w' => F i v w' ∧ W (l.length - left L + 1) w' ∧ Tr i w w') := by
        unfold Yield at hy ⊢
        rw [inv_eval h hR ho hdeps]; exact hy
      unfold wpOp
      simp only [List.getElem?_toArray, ho]
      rw [if_pos (by simp [Region.wanted, hgd])]
      refine .inl (wp_of_yield hy' fun v w' hv => ih (L.setIfInBounds i true) (fun k => if k = i then v else env k) _ _ (by omega) (inv_step h hR ho (fun _ _ _ => trivial) hb trivial hv.2.1) ?_ ?_)
      · intro i' o' ho' hl' e he hbe
        simp only [getD_set hiL] at hl' ⊢
        by_cases ei : e.on = i
        · rw [if_pos ei]
        · rw [if_neg ei]
          by_cases e2 : i' = i
          · subst e2
            rw [ho] at ho'; injection ho' with ho'; subst ho'
            exact hdeps e he hbe
          · rw [if_neg e2] at hl'
            exact hc i' o' ho' hl' e he hbe
      · intro j hj hal
        rw [getD_set hiL] at hj
        by_cases e2 : j = i
        · subst e2; simpa using hv.1
        · rw [if_neg e2] at hj
          simp only [e2, if_false]
          have hjl : j < l.length := by have := getD_true_lt hj; rwa [h.len] at this
          have hanc : ancB l l.length j i = false := by
            cases hx : ancB l l.length j i with
            | false => rfl
            | true =>
              have hy : L.getD i false = true := closed_anc hc _ _ _ hx hj
              rw [hbF] at hy; cases hy
          refine hst i j _ _ _ _ hi' hjl (fun e => e2 e.symm) (hal i (by simp only [getD_set hiL]; simp)) hanc h.world hv.2.2 (hF j hj fun i' hi'' => hal i' ?_)
          simp only [getD_set hiL]
          by_cases e3 : i' = i
          · rw [if_pos e3]
          · rw [if_neg e3]; exact hi''
def DepsD (l : List Oper) (F : Nat → Value → World → Prop) (ρ : Operand → Value) (w : World) : List Edge → Prop
  | [] => True
  | e :: es => (dataB e = true → ((l[e.on]?).bind (·.dst)).isSome = true → F e.on (ρ (.tmp (dstAt l e.on))) w) ∧ DepsD l F ρ w es
theorem depsD_of {ρ : Operand → Value} {w : World} {env : Nat → Value} (hR : okRegion l a0.tmps.size = true) (hρ : ρ = rho l a0 env) : ∀ es : List Edge, (∀ e ∈ es, dataB e = true → F e.on (env e.on) w) → DepsD l F ρ w es
  | [], _ => trivial
  | e :: es, h => ⟨fun hb hd => by
      obtain ⟨t, ht⟩ := Option.isSome_iff_exists.1 hd
      have e1 : dstAt l e.on = t := by unfold dstAt; rw [ht]; rfl
      obtain ⟨o, ho, hot⟩ := Option.bind_eq_some_iff.1 ht
      have hok := okRegion_at hR ho
      unfold okOp at hok
      rw [hot] at hok
      simp only [Bool.and_eq_true, beq_iff_eq] at hok
      have e2 : ρ (.tmp t) = env e.on := by rw [hρ]; simp only [rho, hok.2.2]
      rw [e1, e2]
      exact h e (by simp) hb, depsD_of hR hρ es fun e' he' => h e' (by simp [he'])⟩
/-- Each operation, walked once. -/
def StepsT (P : Program) (l : List Oper) (a0 : Act) (W : Nat → World → Prop) (Tr : Nat → World → World → Prop) (F : Nat → Value → World → Prop) : Nat → List Oper → Prop
  | _, [] => True
  | i, o :: rest => (∀ (k : Nat) (ρ : Operand → Value) (w : World), k < l.length → (∀ v, ρ (.const v) = v) → (∀ f, ρ (.func f) = .func (.func f) #[] #[]) → (∀ t, idxOf l t = none → ρ (.tmp t) = a0.tmps.getD t undef) → W k w →
      DepsD l F ρ w o.after.toList → Yield P o ρ w (fun v w' => F i v w' ∧ W (k + 1) w' ∧ Tr i w w')) ∧ StepsT P l a0 W Tr F (i + 1) rest
theorem stepsT_at {ls : List Oper} {m : Nat} (h : StepsT P l a0 W Tr F m ls) : ∀ (j : Nat) (o : Oper), ls[j]? = some o →
    (∀ (k : Nat) (ρ : Operand → Value) (w : World), k < l.length → (∀ v, ρ (.const v) = v) → (∀ f, ρ (.func f) = .func (.func f) #[] #[]) → (∀ t, idxOf l t = none → ρ (.tmp t) = a0.tmps.getD t undef) → W k w →
      DepsD l F ρ w o.after.toList → Yield P o ρ w (fun v w' => F (m + j) v w' ∧ W (k + 1) w' ∧ Tr (m + j) w w')) := by
  induction ls generalizing m with
  | nil => intro j o h; simp at h
  | cons x xs ih =>
    intro j o hj
    cases j with
    | zero => simp at hj; subst hj; exact h.1
    | succ j =>
      have := ih h.2 j o (by simpa using hj)
      rw [show m + (j + 1) = m + 1 + j by omega]
      exact this
/-- The law. -/
theorem wp_region_live {id : Nat} {Q : Exit → Act → World → Prop} {w : World} (hm : P.follows .mixedOrders = true) (hR : okRegion l a0.tmps.size = true) (hD : okDead l dead = true) (hW : W 0 w.drew)
    (hst : ∀ i j k w w' v, i < l.length → j < l.length → i ≠ j → dead i j = false → ancB l l.length j i = false → W k w → Tr i w w' → F j v w → F j v w') (hstep : StepsT P l a0 W Tr F 0 l)
    (hfin : ∀ env w, W l.length w → (∀ j, j < l.length → (∀ i, i < l.length → dead i j = false) → F j (env j) w) → Q .normal (after l a0 env) w) : (Code.region id l.toArray true).wp P Q a0 w := by
  refine wp_region_any hm ?_
  refine any_of_live hR hD hst (fun i o hi k env w hk hw hd => ?_) hfin _ _ (fun _ => undef) a0 _ ?_ ⟨by simp, rfl, rfl, fun t ht => ?_, fun i hi => trivial, by rw [left_rep]; simpa using hW⟩ ?_ ?_
  · have := stepsT_at hstep i o hi k (rho l a0 env) w hk (fun _ => rfl) (fun _ => rfl) (fun t ht => by simp only [rho, ht]) hw (depsD_of hR rfl _ hd)
    simpa using this
  · unfold left
    have := List.countP_le_length (p := fun b : Bool => !b) (l := (Array.replicate l.toArray.size false).toList)
    simpa using this
  · cases idxOf l t with
    | none => rfl
    | some j => simp only [rep_false, Bool.false_eq_true, if_false]
  · intro i o _ hl
    have hx : (Array.replicate l.toArray.size false).getD i false = true := hl
    rw [rep_false] at hx; cases hx
  · intro j hj; rw [rep_false] at hj; cases hj
end
end Go.Proofs.YtoagpfdhbcgdcaaDoor
end
section
/- A region that draws its order, with facts that end, and a fact on the world that holds until one of its operations comes up. -/
namespace Go.Proofs.YtoagpfdhbcgdcaaDoor
open Go Go.RowKit
section
variable {P : Program} {l : List Oper} {a0 : Act} {W : Nat → World → Prop} {Tr : Nat → World → World → Prop} {F : Nat → Value → World → Prop} {dead : Nat → Nat → Bool} {d : Nat} {G : World → Prop}
theorem any_of_ghost {Q : Exit → Act → World → Prop} (hR : okRegion l a0.tmps.size = true) (hD : okDead l dead = true)
    (hG1 : ∀ i k w w', i < l.length → i ≠ d → W k w → Tr i w w' → G w → G w')
    (hst : ∀ i j k w w' v, i < l.length → j < l.length → i ≠ j → dead i j = false → ancB l l.length j i = false → W k w → Tr i w w' → F j v w → F j v w')
    (hstep : ∀ i o, l[i]? = some o → ∀ k env w, k < l.length → W k w → (∀ e ∈ o.after.toList, dataB e = true → F e.on (env e.on) w) → ((i == d || ancB l l.length d i) = true → G w) → Yield P o (rho l a0 env) w (fun v w' => F i v w' ∧ W (k + 1) w' ∧ Tr i w w'))
    (hfin : ∀ env w, W l.length w → (∀ j, j < l.length → (∀ i, i < l.length → dead i j = false) → F j (env j) w) → Q .normal (after l a0 env) w) :
    ∀ (fuel : Nat) (L : Array Bool) (env : Nat → Value) (a : Act) (w : World), left L ≤ fuel → Inv0 l a0 W L env a w → Closed l (fun i => L.getD i false) →
      (∀ j, L.getD j false = true → Alive dead (fun i => L.getD i false) j → F j (env j) w) → (L.getD d false = false → G w) → wpAny P .any l.toArray Q fuel L a w := by
  intro fuel
  induction fuel with
  | zero =>
    intro L env a w hf h hc hF hG
    have hall : ∀ i, i < l.length → L.getD i false = true := fun i hi => left_zero (by omega) i (by rw [h.len]; exact hi)
    refine ⟨?_, ?_⟩
    · unfold Region.ready
      rw [List.filter_eq_nil_iff]
      intro i hi
      have hi' : i < l.length := by simpa using hi
      have hiL : i < L.size := by rw [h.len]; exact hi'
      have := hall i hi'
      simp only [Array.getD_eq_getD_getElem?, Array.getElem?_eq_getElem hiL, Option.getD_some] at this ⊢
      simp [this]
    · rw [inv_after h hall]
      exact hfin env w (by have := h.world; rwa [left_none h.len hall, Nat.sub_zero] at this) (fun j hj hd => hF j (hall j hj) (fun i hi => hd i (by have := getD_true_lt hi; rwa [h.len] at this)))
  | succ fuel ih =>
    intro L env a w hf h hc hF hG
    refine ⟨fun hr => ?_, fun i hi => ?_⟩
    · have hall := all_listed h.len hR hr
      rw [inv_after h hall]
      exact hfin env w (by have := h.world; rwa [left_none h.len hall, Nat.sub_zero] at this) (fun j hj hd => hF j (hall j hj) (fun i hi => hd i (by have := getD_true_lt hi; rwa [h.len] at this)))
    · unfold Region.ready at hi
      obtain ⟨h1, h2⟩ := List.mem_filter.1 hi
      have hi' : i < l.length := by simpa using h1
      have ho : l[i]? = some l[i] := by simp
      simp only [List.getElem?_toArray, ho, Option.map_some, Option.getD_some, Bool.and_eq_true, Bool.not_eq_true'] at h2
      obtain ⟨hb, hdep⟩ := h2
      have hdeps : ∀ e ∈ l[i].after.toList, Region.binds .any e = true → L.getD e.on false = true := by
        intro e he hbe
        rw [Array.all_eq_true_iff_forall_mem] at hdep
        have := hdep e (by simpa using he)
        simpa [hbe] using this
      have hiL : i < L.size := by rw [h.len]; exact hi'
      have hbF : L.getD i false = false := by
        simp only [Array.getD_eq_getD_getElem?, Array.getElem?_eq_getElem hiL, Option.getD_some] at hb ⊢; exact hb
      have hok := okRegion_at hR ho
      unfold okOp at hok
      simp only [Bool.and_eq_true] at hok
      have hgd : l[i].guard = none := by simpa using hok.1.1.1.2
      have hlt := left_set hiL hb
      have hle := left_le h.len
      have halive : ∀ e ∈ l[i].after.toList, dataB e = true → F e.on (env e.on) w := by
        intro e he hbd
        have hbe := dataB_binds hbd
        refine hF _ (hdeps e he hbe) fun i' hi'' => ?_
        cases hdd : dead i' e.on with
        | false => rfl
        | true =>
          exfalso
          have hl' : i' < l.length := by have := getD_true_lt hi''; rwa [h.len] at this
          have hj' : e.on < l.length := by have := getD_true_lt (hdeps e he hbe); rwa [h.len] at this
          rcases okDead_at hD hl' hj' hdd ho he hbd rfl with rfl | ha
          · have hx : L.getD _ false = true := hi''
            rw [hbF] at hx; cases hx
          · have hx : L.getD i false = true := closed_anc hc _ _ _ ha hi''
            rw [hbF] at hx; cases hx
      have hgh : (i == d || ancB l l.length d i) = true → G w := fun he => hG (by
        cases hx : L.getD d false with
        | false => rfl
        | true =>
          exfalso
          simp only [Bool.or_eq_true, beq_iff_eq] at he
          rcases he with rfl | he
          · rw [hbF] at hx; cases hx
          · have hx : L.getD i false = true := closed_anc hc _ _ _ he hx
            rw [hbF] at hx; cases hx)
      have hy := hstep i l[i] ho _ env w (by omega) h.world halive hgh
      have hy' : Yield P l[i] a.eval w (fun v w' => F i v w' ∧ W (l.length - left L + 1) w' ∧ Tr i w w') := by
        unfold Yield at hy ⊢
        rw [inv_eval h hR ho hdeps]; exact hy
      unfold wpOp
      simp only [List.getElem?_toArray, ho]
      rw [if_pos (by simp [Region.wanted, hgd])]
      refine .inl (wp_of_yield hy' fun v w' hv => ih (L.setIfInBounds i true) (fun k => if k = i then v else env k) _ _ (by omega) (inv_step h hR ho (fun _ _ _ => trivial) hb trivial hv.2.1) ?_ ?_ ?_)
      · intro i' o' ho' hl' e he hbe
        simp only [getD_set hiL] at hl' ⊢
        by_cases ei : e.on = i
        · rw [if_pos ei]
        · rw [if_neg ei]
          by_cases e2 : i' = i
          · subst e2
            rw [ho] at ho'; injection ho' with ho'; subst ho'
            exact hdeps e he hbe
          · rw [if_neg e2] at hl'
            exact hc i' o' ho' hl' e he hbe
      · intro j hj hal
        rw [getD_set hiL] at hj
        by_cases e2 : j = i
        · subst e2; simpa using hv.1
        · rw [if_neg e2] at hj
          simp only [e2, if_false]
          have hjl : j < l.length := by have := getD_true_lt hj; rwa [h.len] at this
          have hanc : ancB l l.length j i = false := by
            cases hx : ancB l l.length j i with
            | false => rfl
            | true =>
              have hy : L.getD i false = true := closed_anc hc _ _ _ hx hj
              rw [hbF] at hy; cases hy
          refine hst i j _ _ _ _ hi' hjl (fun e => e2 e.symm) (hal i (by simp only [getD_set hiL]; simp)) hanc h.world hv.2.2 (hF j hj fun i' hi'' => hal i' ?_)
          simp only [getD_set hiL]
          by_cases e3 : i' = i
          · rw [if_pos e3]
          · rw [if_neg e3]; exact hi''
      · intro hx
        rw [getD_set hiL] at hx
        by_cases e2 : d = i
        · rw [if_pos e2] at hx; cases hx
        · rw [if_neg e2] at hx
          exact hG1 i _ _ _ hi' (fun e => e2 e.symm) h.world hv.2.2 (hG hx)
/-- Each operation, walked once. -/
def StepsG (P : Program) (l : List Oper) (a0 : Act) (W : Nat → World → Prop) (Tr : Nat → World → World → Prop) (F : Nat → Value → World → Prop) (d : Nat) (G : World → Prop) : Nat → List Oper → Prop
  | _, [] => True
  | i, o :: rest => (∀ (k : Nat) (ρ : Operand → Value) (w : World), k < l.length → (∀ v, ρ (.const v) = v) → (∀ f, ρ (.func f) = .func (.func f) #[] #[]) → (∀ t, idxOf l t = none → ρ (.tmp t) = a0.tmps.getD t undef) → W k w →
      DepsD l F ρ w o.after.toList → ((i == d || ancB l l.length d i) = true → G w) → Yield P o ρ w (fun v w' => F i v w' ∧ W (k + 1) w' ∧ Tr i w w')) ∧ StepsG P l a0 W Tr F d G (i + 1) rest
theorem stepsG_at {ls : List Oper} {m : Nat} (h : StepsG P l a0 W Tr F d G m ls) : ∀ (j : Nat) (o : Oper), ls[j]? = some o →
    (∀ (k : Nat) (ρ : Operand → Value) (w : World), k < l.length → (∀ v, ρ (.const v) = v) → (∀ f, ρ (.func f) = .func (.func f) #[] #[]) → (∀ t, idxOf l t = none → ρ (.tmp t) = a0.tmps.getD t undef) → W k w →
      DepsD l F ρ w o.after.toList → ((m + j == d || ancB l l.length d (m + j)) = true → G w) → Yield P o ρ w (fun v w' => F (m + j) v w' ∧ W (k + 1) w' ∧ Tr (m + j) w w')) := by
  induction ls generalizing m with
  | nil => intro j o h; simp at h
  | cons x xs ih =>
    intro j o hj
    cases j with
    | zero => simp at hj; subst hj; exact h.1
    | succ j =>
      have := ih h.2 j o (by simpa using hj)
      rw [show m + (j + 1) = m + 1 + j by omega]
      exact this
/-- The law. -/
theorem wp_region_ghost {id : Nat} {Q : Exit → Act → World → Prop} {w : World} (hm : P.follows .mixedOrders = true) (hR : okRegion l a0.tmps.size = true) (hD : okDead l dead = true) (hW : W 0 w.drew) (hG : G w.drew) (hG1 : ∀ i k w w', i < l.length → i ≠ d → W k w → Tr i w w' → G w → G w')
    (hst : ∀ i j k w w' v, i < l.length → j < l.length → i ≠ j → dead i j = false → ancB l l.length j i = false → W k w → Tr i w w' → F j v w → F j v w') (hstep : StepsG P l a0 W Tr F d G 0 l)
    (hfin : ∀ env w, W l.length w → (∀ j, j < l.length → (∀ i, i < l.length → dead i j = false) → F j (env j) w) → Q .normal (after l a0 env) w) : (Code.region id l.toArray true).wp P Q a0 w := by
  refine wp_region_any hm ?_
  refine any_of_ghost hR hD hG1 hst (fun i o hi k env w hk hw hd hg => ?_) hfin _ _ (fun _ => undef) a0 _ ?_ ⟨by simp, rfl, rfl, fun t ht => ?_, fun i hi => trivial, by rw [left_rep]; simpa using hW⟩ ?_ ?_ (fun _ => hG)
  · have := stepsG_at hstep i o hi k (rho l a0 env) w hk (fun _ => rfl) (fun _ => rfl) (fun t ht => by simp only [rho, ht]) hw (depsD_of hR rfl _ hd)
    simp only [Nat.zero_add] at this
    exact this hg
  · unfold left
    have := List.countP_le_length (p := fun b : Bool => !b) (l := (Array.replicate l.toArray.size false).toList)
    simpa using this
  · cases idxOf l t with
    | none => rfl
    | some j => simp only [rep_false, Bool.false_eq_true, if_false]
  · intro i o _ hl
    have hx : (Array.replicate l.toArray.size false).getD i false = true := hl
    rw [rep_false] at hx; cases hx
  · intro j hj; rw [rep_false] at hj; cases hj
end
end Go.Proofs.YtoagpfdhbcgdcaaDoor
end
section
/- append in a region that draws its order. -/
namespace Go.Proofs.YtoagpfdhbcgdcaaDoor
open Go.RowKit
set_option linter.unusedVariables false
theorem yield_append {P : Program} {w : World} {o : Oper} {ρ : Operand → Value} {R : Value → World → Prop} (s x : Operand) {t e : TypeId} {size bytes : Nat} (E : Elt P t e size bytes)
    (ho : o.op = .call { callee := .builtin .append, args := #[s, x], argTypes := #[t, t] })
    (base : Nat) (v : Value) (n : Nat) (xs : List Value) (hs : ρ s = v) (hown : w.ownsRow base e size v n xs)
    (A : Option Addr) (m c : Nat) (news : List Value) (hx : ρ x = .slice A m c) (hsee : See w A news) (hA : A = none → m = 0) (hl : news.length = m * size) (h1 : ∀ u ∈ news, u.oneCell' = true)
    (h63 : n + m ≤ maxLen) (hbytes : (n + m) * bytes ≤ 140737488355328) (hbase : base ≤ w.heap.size)
    (h : ∀ v' w', w'.ownsRow base e size v' (n + m) (xs ++ news) → w.grownBy w' v.ownBlock → (v'.ownBlock = v.ownBlock ∨ v'.ownBlock = some w.heap.size) → R v' w') : Yield P o ρ w R := by
  obtain ⟨v', w', hrun, h2, h3, h4⟩ := run_append_see (P := P) w E o.type base v n xs hown A m c news hsee hA hl h1 h63 hbytes hbase
  unfold Yield execOp
  simp only [ho, resolve, invoke, builtin, Sem.run_bind, Sem.run_pure, Result.andThen_ok, List.map_toArray, List.map_cons, List.map_nil, hs, hx, hrun]
  exact h v' w' h2 h3 h4
theorem own_lit0 {w : World} {g base : Nat} {T : TypeId} {size : Nat} (hB : base ≤ g) (h : w.heap[g]? = some (.cells #[] T (0, 0))) : w.ownsRow base T size (.slice (some ⟨g, 0, none⟩) 0 0) 0 [] :=
  ⟨by simp, .inr ⟨g, 0, #[], rfl, hB, h, Nat.le_refl _, Nat.zero_le _, by simp, by simp⟩⟩
theorem see_lit {w : World} {g : Nat} {T : TypeId} {cs : List Value} (h : w.heap[g]? = some (.cells cs.toArray T (0, 0))) : See w (some ⟨g, 0, none⟩) cs :=
  .inr ⟨_, rfl, fun j u hu => by rw [addr_own, cell_of_row _ _ _ _ _ _ h]; simpa using hu⟩
end Go.Proofs.YtoagpfdhbcgdcaaDoor
end
section
/- append onto nothing: the world is as it was, or has one new block of the elements' type. -/
namespace Go.Proofs.YtoagpfdhbcgdcaaDoor
open Go.RowKit
set_option linter.unusedVariables false
set_option linter.unusedSimpArgs false
/-- Draws alone, or one new block of type T. -/
def New (T : TypeId) (w w' : World) : Prop := (∃ q, w' = w.drewN q) ∨ ∃ q cs, w' = (w.drewN q).alloc (.cells cs T)
theorem New.below {T : TypeId} {w w' : World} (h : New T w w') : Below w.heap.size w w' := by
  rcases h with ⟨q, rfl⟩ | ⟨q, cs, rfl⟩
  · exact below_drewN (Below.refl _ _) q
  · exact (below_drewN (Below.refl _ _) q).alloc (Nat.le_refl _) _
theorem New.typed {T T' : TypeId} {w w' : World} (h : New T w w') (hT : T ≠ T') : ∀ g cs, w.heap.size ≤ g → w'.heap[g]? ≠ some (.cells cs T' (0, 0)) := by
  intro g cs hg e
  rcases h with ⟨q, rfl⟩ | ⟨q, cs', rfl⟩
  · have hx : g < (w.drewN q).heap.size := (Array.getElem?_eq_some_iff.1 e).1
    have : (w.drewN q).heap.size = w.heap.size := rfl
    omega
  · have hx : g < ((w.drewN q).alloc (.cells cs' T)).heap.size := (Array.getElem?_eq_some_iff.1 e).1
    have h1 : ((w.drewN q).alloc (.cells cs' T)).heap.size = w.heap.size + 1 := by simp
    obtain rfl : g = w.heap.size := by omega
    have h2 : ((w.drewN q).alloc (.cells cs' T)).heap[w.heap.size]? = some (.cells cs' T (0, 0)) := alloc_new' rfl
    rw [h2] at e
    injection e with e
    injection e with _ e
    exact hT e
theorem run_append_new {P : Program} (w : World) {t e : TypeId} {size bytes : Nat} (E : Elt P t e size bytes) (ty : TypeId) (base : Nat) (v : Value) (hv : v = .slice none 0 0 ∨ ∃ g, v = .slice (some ⟨g, 0, none⟩) 0 0) (hown : w.ownsRow base e size v 0 [])
    (A : Option Addr) (m c : Nat) (news : List Value) (hs : See w A news) (hA : A = none → m = 0) (hl : news.length = m * size) (h1 : ∀ u ∈ news, u.oneCell' = true)
    (h63 : m ≤ maxLen) (hbytes : m * bytes ≤ 140737488355328) (hbase : base ≤ w.heap.size) :
    ∃ v' w', (Builtin.append_ #[t, t] ty #[v, .slice A m c]).run P w = .ok v' w' ∧ w'.ownsRow base e size v' m news ∧ New e w w' := by
  obtain ⟨ht, ⟨i, z, hi, hz, hsize, hby, hzs⟩, hpos⟩ := E
  by_cases hm : m = 0
  · subst hm
    have hn : news = [] := List.eq_nil_of_length_eq_zero (by simpa using hl)
    subst hn
    refine ⟨v, w, ?_, hown, .inl ⟨0, rfl⟩⟩
    rcases hv with rfl | ⟨g, rfl⟩ <;> cases A <;> simp [Builtin.append_, run_underlying ht, sizeOf, typeInfo, hi, Builtin.lenOf, Builtin.firstCells, storeCells, loadCells, loadCellsFrom]
  · obtain ⟨ad, rfl⟩ : ∃ ad, A = some ad := by
      cases A with
      | none => exact absurd (hA rfl) hm
      | some ad => exact ⟨ad, rfl⟩
    have hcells : ∀ j u, news[j]? = some u → w.cell? (ad.add j) = some u := by
      intro j u hu
      rcases hs with h | ⟨ad', h, hc⟩
      · subst h; simp at hu
      · injection h with h; subst h; exact hc j u hu
    subst hsize
    subst hby
    have hsmall : m ≤ 9223372036854775807 := by simp only [maxLen] at h63; omega
    have hge := grownCap_ge w m 0 e
    have hcm : grownCap w m 0 e ≤ maxLen := grownCap_le_maxLen w m 0 e h63
    have fin : ((w.drew.alloc (.cells (news.toArray ++ Builtin.zeroCells z.cells (grownCap w m 0 e - m)) e))).ownsRow base e i.size (.slice (some ⟨w.heap.size, 0, none⟩) m (grownCap w m 0 e)) m news := by
      refine ⟨hl, .inr ⟨w.heap.size, _, _, rfl, hbase, heap_alloc_new w.drew _, hge, hcm, ?_, ?_⟩⟩
      · simp only [Array.size_append, List.size_toArray, size_zeroCells, hzs, hl, ← Nat.add_mul]
        congr 1
        omega
      · simp only [Array.toList_append]
        rw [← hl]
        exact List.take_left
    rcases hv with rfl | ⟨g, rfl⟩
    · have hr := run_append_nil (P := P) w t ty e i z ht hi hz ad m c news hl hcells (by omega) (by omega) (by omega)
      exact ⟨_, _, hr, fin, .inr ⟨1, _, rfl⟩⟩
    · have hr := run_append_grow (P := P) w t ty e i z ht hi hz ⟨g, 0, none⟩ 0 0 [] (by simp) (by simp) ad m c news hl hcells (by omega) (by omega) (growslice_fits (by omega) (by simpa using hbytes))
      simp only [Nat.zero_add, List.nil_append, Array.empty_append] at hr
      exact ⟨_, _, hr, fin, .inr ⟨1, _, rfl⟩⟩
theorem yield_append_new {P : Program} {w : World} {o : Oper} {ρ : Operand → Value} {R : Value → World → Prop} (s x : Operand) {t e : TypeId} {size bytes : Nat} (E : Elt P t e size bytes)
    (ho : o.op = .call { callee := .builtin .append, args := #[s, x], argTypes := #[t, t] })
    (base : Nat) (v : Value) (hv : v = .slice none 0 0 ∨ ∃ g, v = .slice (some ⟨g, 0, none⟩) 0 0) (hs : ρ s = v) (hown : w.ownsRow base e size v 0 [])
    (A : Option Addr) (m c : Nat) (news : List Value) (hx : ρ x = .slice A m c) (hsee : See w A news) (hA : A = none → m = 0) (hl : news.length = m * size) (h1 : ∀ u ∈ news, u.oneCell' = true)
    (h63 : m ≤ maxLen) (hbytes : m * bytes ≤ 140737488355328) (hbase : base ≤ w.heap.size)
    (h : ∀ v' w', w'.ownsRow base e size v' m news → New e w w' → R v' w') : Yield P o ρ w R := by
  obtain ⟨v', w', hrun, h2, h3⟩ := run_append_new (P := P) w E o.type base v hv hown A m c news hsee hA hl h1 h63 hbytes hbase
  unfold Yield execOp
  simp only [ho, resolve, invoke, builtin, Sem.run_bind, Sem.run_pure, Result.andThen_ok, List.map_toArray, List.map_cons, List.map_nil, hs, hx, hrun]
  exact h v' w' h2 h3
theorem wpList_append_new {P : Program} (w : World) {ops : Array Oper} {rest : List Oper} {o : Oper} {a : Act} {Q : Exit → Act → World → Prop} (hgd : o.guard = none) (s x : Operand) {t e : TypeId} {size bytes : Nat} (E : Elt P t e size bytes)
    (ho : o.op = .call { callee := .builtin .append, args := #[s, x], argTypes := #[t, t] })
    (base : Nat) (v : Value) (hv : v = .slice none 0 0 ∨ ∃ g, v = .slice (some ⟨g, 0, none⟩) 0 0) (hs : a.eval s = v) (hown : w.ownsRow base e size v 0 [])
    (A : Option Addr) (m c : Nat) (news : List Value) (hx : a.eval x = .slice A m c) (hsee : See w A news) (hA : A = none → m = 0) (hl : news.length = m * size) (h1 : ∀ u ∈ news, u.oneCell' = true)
    (h63 : m ≤ maxLen) (hbytes : m * bytes ≤ 140737488355328) (hbase : base ≤ w.heap.size)
    (h : ∀ v' w', w'.ownsRow base e size v' m news → New e w w' → wpList P ops Q rest (a.put o.dst v') w') : wpList P ops Q (o :: rest) a w := by
  refine wpList_plain hgd fun K hK => ?_
  obtain ⟨v', w', hrun, h2, h3⟩ := run_append_new (P := P) w E o.type base v hv hown A m c news hsee hA hl h1 h63 hbytes hbase
  unfold Oper.wp execOp
  simp only [ho, resolve, invoke, builtin, Sem.run_bind, Sem.run_pure, Result.andThen_ok, List.map_toArray, List.map_cons, List.map_nil, hs, hx, hrun]
  exact hK _ _ (h v' w' h2 h3)
end Go.Proofs.YtoagpfdhbcgdcaaDoor
end
section
/- A region that draws its order, with facts that end, each of which may speak of all values that its operation leans on. -/
namespace Go.Proofs.YtoagpfdhbcgdcaaDoor
open Go Go.RowKit
/-- The values, one more known. -/
def upd (env : Nat → Value) (i : Nat) (v : Value) : Nat → Value := fun k => if k = i then v else env k
theorem upd_same (env : Nat → Value) (i : Nat) (v : Value) : upd env i v i = v := by simp [upd]
theorem upd_other (env : Nat → Value) {i j : Nat} (v : Value) (h : j ≠ i) : upd env i v j = env j := by simp [upd, h]
section
variable {P : Program} {l : List Oper} {a0 : Act} {W : Nat → World → Prop} {Tr : Nat → World → World → Prop} {F : Nat → (Nat → Value) → World → Prop} {dead : Nat → Nat → Bool}
theorem any_of_env {Q : Exit → Act → World → Prop} (hR : okRegion l a0.tmps.size = true) (hD : okDead l dead = true)
    (hcg : ∀ j env env' w, j < l.length → (∀ i, (i = j ∨ ancB l l.length j i = true) → env i = env' i) → F j env w → F j env' w)
    (hst : ∀ i j k env w w', i < l.length → j < l.length → i ≠ j → dead i j = false → ancB l l.length j i = false → W k w → Tr i w w' → F j env w → F j env w')
    (hstep : ∀ i o, l[i]? = some o → ∀ k env w, k < l.length → W k w → (∀ e ∈ o.after.toList, dataB e = true → F e.on env w) → Yield P o (rho l a0 env) w (fun v w' => F i (upd env i v) w' ∧ W (k + 1) w' ∧ Tr i w w'))
    (hfin : ∀ env w, W l.length w → (∀ j, j < l.length → (∀ i, i < l.length → dead i j = false) → F j env w) → Q .normal (after l a0 env) w) :
    ∀ (fuel : Nat) (L : Array Bool) (env : Nat → Value) (a : Act) (w : World), left L ≤ fuel → Inv0 l a0 W L env a w → Closed l (fun i => L.getD i false) →
      (∀ j, L.getD j false = true → Alive dead (fun i => L.getD i false) j → F j env w) → wpAny P .any l.toArray Q fuel L a w := by
  intro fuel
  induction fuel with
  | zero =>
    intro L env a w hf h hc hF
    have hall : ∀ i, i < l.length → L.getD i false = true := fun i hi => left_zero (by omega) i (by rw [h.len]; exact hi)
    refine ⟨?_, ?_⟩
    · unfold Region.ready
      rw [List.filter_eq_nil_iff]
      intro i hi
      have hi' : i < l.length := by simpa using hi
      have hiL : i < L.size := by rw [h.len]; exact hi'
      have := hall i hi'
      simp only [Array.getD_eq_getD_getElem?, Array.getElem?_eq_getElem hiL, Option.getD_some] at this ⊢
      simp [this]
    · rw [inv_after h hall]
      exact hfin env w (by have := h.world; rwa [left_none h.len hall, Nat.sub_zero] at this) (fun j hj hd => hF j (hall j hj) (fun i hi => hd i (by have := getD_true_lt hi; rwa [h.len] at this)))
  | succ fuel ih =>
    intro L env a w hf h hc hF
    refine ⟨fun hr => ?_, fun i hi => ?_⟩
    · have hall := all_listed h.len hR hr
      rw [inv_after h hall]
      exact hfin env w (by have := h.world; rwa [left_none h.len hall, Nat.sub_zero] at this) (fun j hj hd => hF j (hall j hj) (fun i hi => hd i (by have := getD_true_lt hi; rwa [h.len] at this)))
    · unfold Region.ready at hi
      obtain ⟨h1, h2⟩ := List.mem_filter.1 hi
      have hi' : i < l.length := by simpa using h1
      have ho : l[i]? = some l[i] := by simp
      simp only [List.getElem?_toArray, ho, Option.map_some, Option.getD_some, Bool.and_eq_true, Bool.not_eq_true'] at h2
      obtain ⟨hb, hdep⟩ := h2
      have hdeps : ∀ e ∈ l[i].after.toList, Region.binds .any e = true → L.getD e.on false = true := by
        intro e he hbe
        rw [Array.all_eq_true_iff_forall_mem] at hdep
        have := hdep e (by simpa using he)
        simpa [hbe] using this
      have hiL : i < L.size := by rw [h.len]; exact hi'
      have hbF : L.getD i false = false := by
        simp only [Array.getD_eq_getD_getElem?, Array.getElem?_eq_getElem hiL, Option.getD_some] at hb ⊢; exact hb
      have hok := okRegion_at hR ho
      unfold okOp at hok
      simp only [Bool.and_eq_true] at hok
      have hgd : l[i].guard = none := by simpa using hok.1.1.1.2
      have hlt := left_set hiL hb
      have hle := left_le h.len
      have halive : ∀ e ∈ l[i].after.toList, dataB e = true → F e.on env w := by
        intro e he hbd
        have hbe := dataB_binds hbd
        refine hF _ (hdeps e he hbe) fun i' hi'' => ?_
        cases hdd : dead i' e.on with
        | false => rfl
        | true =>
          exfalso
          have hl' : i' < l.length := by have := getD_true_lt hi''; rwa [h.len] at this
          have hj' : e.on < l.length := by have := getD_true_lt (hdeps e he hbe); rwa [h.len] at this
          rcases okDead_at hD hl' hj' hdd ho he hbd rfl with rfl | ha
          · have hx : L.getD _ false = true := hi''
            rw [hbF] at hx; cases hx
          · have hx : L.getD i false = true := closed_anc hc _ _ _ ha hi''
            rw [hbF] at hx; cases hx
      have hy := hstep i l[i] ho _ env w (by omega) h.world halive
      have hy' : Yield P l[i] a.eval w (fun v w' => F i (upd env i v) w' ∧ W (l.length - left L + 1) w' ∧ Tr i w w') := by
        unfold Yield at hy ⊢
        rw [inv_eval h hR ho hdeps]; exact hy
      unfold wpOp
      simp only [List.getElem?_toArray, ho]
      rw [if_pos (by simp [Region.wanted, hgd])]
      refine .inl (wp_of_yield hy' fun v w' hv => ih (L.setIfInBounds i true) (upd env i v) _ _ (by omega) (inv_step h hR ho (fun _ _ _ => trivial) hb trivial hv.2.1) ?_ ?_)
      · intro i' o' ho' hl' e he hbe
        simp only [getD_set hiL] at hl' ⊢
        by_cases ei : e.on = i
        · rw [if_pos ei]
        · rw [if_neg ei]
          by_cases e2 : i' = i
          · subst e2
            rw [ho] at ho'; injection ho' with ho'; subst ho'
            exact hdeps e he hbe
          · rw [if_neg e2] at hl'
            exact hc i' o' ho' hl' e he hbe
      · intro j hj hal
        rw [getD_set hiL] at hj
        by_cases e2 : j = i
        · subst e2; exact hv.1
        · rw [if_neg e2] at hj
          have hjl : j < l.length := by have := getD_true_lt hj; rwa [h.len] at this
          have hanc : ancB l l.length j i = false := by
            cases hx : ancB l l.length j i with
            | false => rfl
            | true =>
              have hy : L.getD i false = true := closed_anc hc _ _ _ hx hj
              rw [hbF] at hy; cases hy
          refine hcg j env _ _ hjl (fun q hq => ?_) ?_
          · refine (upd_other env v fun e => ?_).symm
            subst e
            rcases hq with hq | hq
            · exact e2 hq.symm
            · rw [hanc] at hq; cases hq
          · refine hst i j _ env _ _ hi' hjl (fun e => e2 e.symm) (hal i (by simp only [getD_set hiL]; simp)) hanc h.world hv.2.2 (hF j hj fun i' hi'' => hal i' ?_)
            simp only [getD_set hiL]
            by_cases e3 : i' = i
            · rw [if_pos e3]
            · rw [if_neg e3]; exact hi''
def DepsE (l : List Oper) (F : Nat → (Nat → Value) → World → Prop) (env : Nat → Value) (w : World) : List Edge → Prop
  | [] => True
  | e :: es => (dataB e = true → F e.on env w) ∧ DepsE l F env w es
theorem depsE_of {w : World} {env : Nat → Value} : ∀ es : List Edge, (∀ e ∈ es, dataB e = true → F e.on env w) → DepsE l F env w es
  | [], _ => trivial
  | e :: es, h => ⟨h e (by simp), depsE_of es fun e' he' => h e' (by simp [he'])⟩
/-- Each operation, walked once. -/
def StepsE (P : Program) (l : List Oper) (a0 : Act) (W : Nat → World → Prop) (Tr : Nat → World → World → Prop) (F : Nat → (Nat → Value) → World → Prop) : Nat → List Oper → Prop
  | _, [] => True
  | i, o :: rest => (∀ (k : Nat) (ρ : Operand → Value) (env : Nat → Value) (w : World), k < l.length → (∀ v, ρ (.const v) = v) → (∀ f, ρ (.func f) = .func (.func f) #[] #[]) → (∀ g, ρ (.global g) = .pointer (some ⟨g, 0, none⟩)) → (∀ t, ρ (.tmp t) = match idxOf l t with | some j => env j | none => a0.tmps.getD t undef) → W k w →
      DepsE l F env w o.after.toList → Yield P o ρ w (fun v w' => F i (upd env i v) w' ∧ W (k + 1) w' ∧ Tr i w w')) ∧ StepsE P l a0 W Tr F (i + 1) rest
theorem stepsE_at {ls : List Oper} {m : Nat} (h : StepsE P l a0 W Tr F m ls) : ∀ (j : Nat) (o : Oper), ls[j]? = some o →
    (∀ (k : Nat) (ρ : Operand → Value) (env : Nat → Value) (w : World), k < l.length → (∀ v, ρ (.const v) = v) → (∀ f, ρ (.func f) = .func (.func f) #[] #[]) → (∀ g, ρ (.global g) = .pointer (some ⟨g, 0, none⟩)) → (∀ t, ρ (.tmp t) = match idxOf l t with | some j => env j | none => a0.tmps.getD t undef) → W k w →
      DepsE l F env w o.after.toList → Yield P o ρ w (fun v w' => F (m + j) (upd env (m + j) v) w' ∧ W (k + 1) w' ∧ Tr (m + j) w w')) := by
  induction ls generalizing m with
  | nil => intro j o h; simp at h
  | cons x xs ih =>
    intro j o hj
    cases j with
    | zero => simp at hj; subst hj; exact h.1
    | succ j =>
      have := ih h.2 j o (by simpa using hj)
      rw [show m + (j + 1) = m + 1 + j by omega]
      exact this
/-- The law. -/
theorem wp_region_env {id : Nat} {Q : Exit → Act → World → Prop} {w : World} (hm : P.follows .mixedOrders = true) (hR : okRegion l a0.tmps.size = true) (hD : okDead l dead = true) (hW : W 0 w.drew)
    (hcg : ∀ j env env' w, j < l.length → (∀ i, (i = j ∨ ancB l l.length j i = true) → env i = env' i) → F j env w → F j env' w)
    (hst : ∀ i j k env w w', i < l.length → j < l.length → i ≠ j → dead i j = false → ancB l l.length j i = false → W k w → Tr i w w' → F j env w → F j env w') (hstep : StepsE P l a0 W Tr F 0 l)
    (hfin : ∀ env w, W l.length w → (∀ j, j < l.length → (∀ i, i < l.length → dead i j = false) → F j env w) → Q .normal (after l a0 env) w) : (Code.region id l.toArray true).wp P Q a0 w := by
  refine wp_region_any hm ?_
  refine any_of_env hR hD hcg hst (fun i o hi k env w hk hw hd => ?_) hfin _ _ (fun _ => undef) a0 _ ?_ ⟨by simp, rfl, rfl, fun t ht => ?_, fun i hi => trivial, by rw [left_rep]; simpa using hW⟩ ?_ ?_
  · have := stepsE_at hstep i o hi k (rho l a0 env) env w hk (fun _ => rfl) (fun _ => rfl) (fun _ => rfl) (fun t => rfl) hw (depsE_of _ hd)
    simpa using this
  · unfold left
    have := List.countP_le_length (p := fun b : Bool => !b) (l := (Array.replicate l.toArray.size false).toList)
    simpa using this
  · cases idxOf l t with
    | none => rfl
    | some j => simp only [rep_false, Bool.false_eq_true, if_false]
  · intro i o _ hl
    have hx : (Array.replicate l.toArray.size false).getD i false = true := hl
    rw [rep_false] at hx; cases hx
  · intro j hj; rw [rep_false] at hj; cases hj
end
end Go.Proofs.YtoagpfdhbcgdcaaDoor
end
section
/- As Env, with a fact on the world that holds until one of the operations comes up. -/
namespace Go.Proofs.YtoagpfdhbcgdcaaDoor
open Go Go.RowKit
section
variable {P : Program} {l : List Oper} {a0 : Act} {W : Nat → World → Prop} {Tr : Nat → World → World → Prop} {F : Nat → (Nat → Value) → World → Prop} {dead : Nat → Nat → Bool} {d : Nat} {G : World → Prop}
theorem any_of_envg {Q : Exit → Act → World → Prop} (hR : okRegion l a0.tmps.size = true) (hD : okDead l dead = true)
    (hG1 : ∀ i k w w', i < l.length → i ≠ d → ancB l l.length i d = false → W k w → Tr i w w' → G w → G w')
    (hcg : ∀ j env env' w, j < l.length → (∀ i, (i = j ∨ ancB l l.length j i = true) → env i = env' i) → F j env w → F j env' w)
    (hst : ∀ i j k env w w', i < l.length → j < l.length → i ≠ j → dead i j = false → ancB l l.length j i = false → W k w → Tr i w w' → F j env w → F j env w')
    (hstep : ∀ i o, l[i]? = some o → ∀ k env w, k < l.length → W k w → (∀ e ∈ o.after.toList, dataB e = true → F e.on env w) → ((i == d || ancB l l.length d i) = true → G w) → Yield P o (rho l a0 env) w (fun v w' => F i (upd env i v) w' ∧ W (k + 1) w' ∧ Tr i w w'))
    (hfin : ∀ env w, W l.length w → (∀ j, j < l.length → (∀ i, i < l.length → dead i j = false) → F j env w) → Q .normal (after l a0 env) w) :
    ∀ (fuel : Nat) (L : Array Bool) (env : Nat → Value) (a : Act) (w : World), left L ≤ fuel → Inv0 l a0 W L env a w → Closed l (fun i => L.getD i false) →
      (∀ j, L.getD j false = true → Alive dead (fun i => L.getD i false) j → F j env w) → (L.getD d false = false → G w) → wpAny P .any l.toArray Q fuel L a w := by
  intro fuel
  induction fuel with
  | zero =>
    intro L env a w hf h hc hF hG
    have hall : ∀ i, i < l.length → L.getD i false = true := fun i hi => left_zero (by omega) i (by rw [h.len]; exact hi)
    refine ⟨?_, ?_⟩
    · unfold Region.ready
      rw [List.filter_eq_nil_iff]
      intro i hi
      have hi' : i < l.length := by simpa using hi
      have hiL : i < L.size := by rw [h.len]; exact hi'
      have := hall i hi'
      simp only [Array.getD_eq_getD_getElem?, Array.getElem?_eq_getElem hiL, Option.getD_some] at this ⊢
      simp [this]
    · rw [inv_after h hall]
      exact hfin env w (by have := h.world; rwa [left_none h.len hall, Nat.sub_zero] at this) (fun j hj hd => hF j (hall j hj) (fun i hi => hd i (by have := getD_true_lt hi; rwa [h.len] at this)))
  | succ fuel ih =>
    intro L env a w hf h hc hF hG
    refine ⟨fun hr => ?_, fun i hi => ?_⟩
    · have hall := all_listed h.len hR hr
      rw [inv_after h hall]
      exact hfin env w (by have := h.world; rwa [left_none h.len hall, Nat.sub_zero] at this) (fun j hj hd => hF j (hall j hj) (fun i hi => hd i (by have := getD_true_lt hi; rwa [h.len] at this)))
    · unfold Region.ready at hi
      obtain ⟨h1, h2⟩ := List.mem_filter.1 hi
      have hi' : i < l.length := by simpa using h1
      have ho : l[i]? = some l[i] := by simp
      simp only [List.getElem?_toArray, ho, Option.map_some, Option.getD_some, Bool.and_eq_true, Bool.not_eq_true'] at h2
      obtain ⟨hb, hdep⟩ := h2
      have hdeps : ∀ e ∈ l[i].after.toList, Region.binds .any e = true → L.getD e.on false = true := by
        intro e he hbe
        rw [Array.all_eq_true_iff_forall_mem] at hdep
        have := hdep e (by simpa using he)
        simpa [hbe] using this
      have hiL : i < L.size := by rw [h.len]; exact hi'
      have hbF : L.getD i false = false := by
        simp only [Array.getD_eq_getD_getElem?, Array.getElem?_eq_getElem hiL, Option.getD_some] at hb ⊢; exact hb
      have hok := okRegion_at hR ho
      unfold okOp at hok
      simp only [Bool.and_eq_true] at hok
      have hgd : l[i].guard = none := by simpa using hok.1.1.1.2
      have hlt := left_set hiL hb
      have hle := left_le h.len
      have halive : ∀ e ∈ l[i].after.toList, dataB e = true → F e.on env w := by
        intro e he hbd
        have hbe := dataB_binds hbd
        refine hF _ (hdeps e he hbe) fun i' hi'' => ?_
        cases hdd : dead i' e.on with
        | false => rfl
        | true =>
          exfalso
          have hl' : i' < l.length := by have := getD_true_lt hi''; rwa [h.len] at this
          have hj' : e.on < l.length := by have := getD_true_lt (hdeps e he hbe); rwa [h.len] at this
          rcases okDead_at hD hl' hj' hdd ho he hbd rfl with rfl | ha
          · have hx : L.getD _ false = true := hi''
            rw [hbF] at hx; cases hx
          · have hx : L.getD i false = true := closed_anc hc _ _ _ ha hi''
            rw [hbF] at hx; cases hx
      have hghost : (i == d || ancB l l.length d i) = true → G w := by
        intro hx
        refine hG ?_
        cases hd0 : L.getD d false with
        | false => rfl
        | true =>
          exfalso
          rw [Bool.or_eq_true, beq_iff_eq] at hx
          rcases hx with rfl | hx
          · rw [hbF] at hd0; cases hd0
          · have hy : L.getD i false = true := closed_anc hc _ _ _ hx hd0
            rw [hbF] at hy; cases hy
      have hy := hstep i l[i] ho _ env w (by omega) h.world halive hghost
      have hy' : Yield P l[i] a.eval w (fun v w' => F i (upd env i v) w' ∧ W (l.length - left L + 1) w' ∧ Tr i w w') := by
        unfold Yield at hy ⊢
        rw [inv_eval h hR ho hdeps]; exact hy
      unfold wpOp
      simp only [List.getElem?_toArray, ho]
      rw [if_pos (by simp [Region.wanted, hgd])]
      refine .inl (wp_of_yield hy' fun v w' hv => ih (L.setIfInBounds i true) (upd env i v) _ _ (by omega) (inv_step h hR ho (fun _ _ _ => trivial) hb trivial hv.2.1) ?_ ?_ ?_)
      · intro i' o' ho' hl' e he hbe
        simp only [getD_set hiL] at hl' ⊢
        by_cases ei : e.on = i
        · rw [if_pos ei]
        · rw [if_neg ei]
          by_cases e2 : i' = i
          · subst e2
            rw [ho] at ho'; injection ho' with ho'; subst ho'
            exact hdeps e he hbe
          · rw [if_neg e2] at hl'
            exact hc i' o' ho' hl' e he hbe
      · intro j hj hal
        rw [getD_set hiL] at hj
        by_cases e2 : j = i
        · subst e2; exact hv.1
        · rw [if_neg e2] at hj
          have hjl : j < l.length := by have := getD_true_lt hj; rwa [h.len] at this
          have hanc : ancB l l.length j i = false := by
            cases hx : ancB l l.length j i with
            | false => rfl
            | true =>
              have hy : L.getD i false = true := closed_anc hc _ _ _ hx hj
              rw [hbF] at hy; cases hy
          refine hcg j env _ _ hjl (fun q hq => ?_) ?_
          · refine (upd_other env v fun e => ?_).symm
            subst e
            rcases hq with hq | hq
            · exact e2 hq.symm
            · rw [hanc] at hq; cases hq
          · refine hst i j _ env _ _ hi' hjl (fun e => e2 e.symm) (hal i (by simp only [getD_set hiL]; simp)) hanc h.world hv.2.2 (hF j hj fun i' hi'' => hal i' ?_)
            simp only [getD_set hiL]
            by_cases e3 : i' = i
            · rw [if_pos e3]
            · rw [if_neg e3]; exact hi''
      · intro hx
        rw [getD_set hiL] at hx
        by_cases e2 : d = i
        · rw [if_pos e2] at hx; cases hx
        · rw [if_neg e2] at hx
          refine hG1 i _ _ _ hi' (fun e => e2 e.symm) ?_ h.world hv.2.2 (hG hx)
          cases ha : ancB l l.length i d with
          | false => rfl
          | true =>
            exfalso
            rw [show l.length = l.length - 1 + 1 by omega] at ha
            unfold ancB at ha
            rw [ho] at ha
            simp only [Array.any_eq_true', Bool.and_eq_true, Bool.or_eq_true, beq_iff_eq] at ha
            obtain ⟨e, he, hb3, h2⟩ := ha
            have hl := hdeps e (by simpa using he) hb3
            rcases h2 with h2 | h2
            · rw [h2, hx] at hl; cases hl
            · have hy : L.getD d false = true := closed_anc hc _ _ _ h2 hl
              rw [hx] at hy; cases hy
/-- Each operation, walked once. -/
def StepsEG (P : Program) (l : List Oper) (a0 : Act) (W : Nat → World → Prop) (Tr : Nat → World → World → Prop) (F : Nat → (Nat → Value) → World → Prop) (d : Nat) (G : World → Prop) : Nat → List Oper → Prop
  | _, [] => True
  | i, o :: rest => (∀ (k : Nat) (ρ : Operand → Value) (env : Nat → Value) (w : World), k < l.length → (∀ v, ρ (.const v) = v) → (∀ f, ρ (.func f) = .func (.func f) #[] #[]) → (∀ g, ρ (.global g) = .pointer (some ⟨g, 0, none⟩)) → (∀ t, ρ (.tmp t) = match idxOf l t with | some j => env j | none => a0.tmps.getD t undef) → W k w →
      DepsE l F env w o.after.toList → ((i == d || ancB l l.length d i) = true → G w) → Yield P o ρ w (fun v w' => F i (upd env i v) w' ∧ W (k + 1) w' ∧ Tr i w w')) ∧ StepsEG P l a0 W Tr F d G (i + 1) rest
theorem stepsEG_at {ls : List Oper} {m : Nat} (h : StepsEG P l a0 W Tr F d G m ls) : ∀ (j : Nat) (o : Oper), ls[j]? = some o →
    (∀ (k : Nat) (ρ : Operand → Value) (env : Nat → Value) (w : World), k < l.length → (∀ v, ρ (.const v) = v) → (∀ f, ρ (.func f) = .func (.func f) #[] #[]) → (∀ g, ρ (.global g) = .pointer (some ⟨g, 0, none⟩)) → (∀ t, ρ (.tmp t) = match idxOf l t with | some j => env j | none => a0.tmps.getD t undef) → W k w →
      DepsE l F env w o.after.toList → ((m + j == d || ancB l l.length d (m + j)) = true → G w) → Yield P o ρ w (fun v w' => F (m + j) (upd env (m + j) v) w' ∧ W (k + 1) w' ∧ Tr (m + j) w w')) := by
  induction ls generalizing m with
  | nil => intro j o h; simp at h
  | cons x xs ih =>
    intro j o hj
    cases j with
    | zero => simp at hj; subst hj; exact h.1
    | succ j =>
      have := ih h.2 j o (by simpa using hj)
      rw [show m + (j + 1) = m + 1 + j by omega]
      exact this
/-- The law. -/
theorem wp_region_envg {id : Nat} {Q : Exit → Act → World → Prop} {w : World} (hm : P.follows .mixedOrders = true) (hR : okRegion l a0.tmps.size = true) (hD : okDead l dead = true) (hW : W 0 w.drew) (hG : G w.drew) (hG1 : ∀ i k w w', i < l.length → i ≠ d → ancB l l.length i d = false → W k w → Tr i w w' → G w → G w')
    (hcg : ∀ j env env' w, j < l.length → (∀ i, (i = j ∨ ancB l l.length j i = true) → env i = env' i) → F j env w → F j env' w)
    (hst : ∀ i j k env w w', i < l.length → j < l.length → i ≠ j → dead i j = false → ancB l l.length j i = false → W k w → Tr i w w' → F j env w → F j env w') (hstep : StepsEG P l a0 W Tr F d G 0 l)
    (hfin : ∀ env w, W l.length w → (∀ j, j < l.length → (∀ i, i < l.length → dead i j = false) → F j env w) → Q .normal (after l a0 env) w) : (Code.region id l.toArray true).wp P Q a0 w := by
  refine wp_region_any hm ?_
  refine any_of_envg hR hD hG1 hcg hst (fun i o hi k env w hk hw hd hg => ?_) hfin _ _ (fun _ => undef) a0 _ ?_ ⟨by simp, rfl, rfl, fun t ht => ?_, fun i hi => trivial, by rw [left_rep]; simpa using hW⟩ ?_ ?_ (fun _ => hG)
  · have := stepsEG_at hstep i o hi k (rho l a0 env) env w hk (fun _ => rfl) (fun _ => rfl) (fun _ => rfl) (fun t => rfl) hw (depsE_of _ hd)
    simp only [Nat.zero_add] at this
    exact this hg
  · unfold left
    have := List.countP_le_length (p := fun b : Bool => !b) (l := (Array.replicate l.toArray.size false).toList)
    simpa using this
  · cases idxOf l t with
    | none => rfl
    | some j => simp only [rep_false, Bool.false_eq_true, if_false]
  · intro i o _ hl
    have hx : (Array.replicate l.toArray.size false).getD i false = true := hl
    rw [rep_false] at hx; cases hx
  · intro j hj; rw [rep_false] at hj; cases hj
end
end Go.Proofs.YtoagpfdhbcgdcaaDoor
end
section
/- As Env, where operations may be guarded. -/
namespace Go.Proofs.YtoagpfdhbcgdcaaDoor
open Go Go.RowKit
/-- The guard's operation is leaned on, and its slot is its own. -/
def okGuard (l : List Oper) (o : Oper) : Bool := match o.guard with
  | none => true
  | some (j, _) => (o.after.any fun e => e.on == j && Region.binds .any e) && (match (l[j]?).bind (·.dst) with
    | some t => idxOf l t == some j
    | none => false)
/-- Does the guard let it through? -/
def wantB (env : Nat → Value) (o : Oper) : Bool := match o.guard with
  | none => true
  | some (j, b) => match env j with
    | .bool c => c == b
    | _ => false
/-- What guards lean on never ends. -/
def okGuardLive (l : List Oper) (dead : Nat → Nat → Bool) : Bool := l.all fun o => match o.guard with
  | none => true
  | some (j, _) => (List.range l.length).all fun i => !dead i j
def GuardF (F : Nat → (Nat → Value) → World → Prop) (env : Nat → Value) (w : World) (o : Oper) : Prop := match o.guard with
  | none => True
  | some (j, _) => F j env w
/-- What an operation comes to, guarded or not. -/
def YieldW (P : Program) (o : Oper) (want : Bool) (ρ : Operand → Value) (w : World) (R : Value → World → Prop) : Prop := if want = true then Yield P o ρ w R else R undef w
def okOpW (l : List Oper) (n : Nat) (i : Nat) (o : Oper) : Bool :=
  (o.after.all fun e => !Region.binds .any e || decide (e.on < i)) && okGuard l o && !isSelect o.op &&
  (o.op.operands.all fun x => match x with
    | .tmp t => match idxOf l t with
      | some j => o.after.any fun e => e.on == j && Region.binds .any e
      | none => true
    | _ => true) &&
  (match o.dst with
    | some d => decide (d < n) && idxOf l d == some i
    | none => true)
def okRegionW (l : List Oper) (n : Nat) : Bool := (List.range l.length).all fun i => match l[i]? with
  | some o => okOpW l n i o
  | none => true

section
variable {P : Program} {l : List Oper} {a0 : Act} {W : Nat → World → Prop} {Tr : World → World → Prop} {F : Nat → Value → World → Prop}
theorem okRegion_atW {n i : Nat} {o : Oper} (h : okRegionW l n = true) (hi : l[i]? = some o) : okOpW l n i o = true := by
  unfold okRegionW at h
  have hlt : i < l.length := (List.getElem?_eq_some_iff.1 hi).1
  have := (List.all_eq_true.1 h) i (List.mem_range.2 hlt)
  simpa [hi] using this
theorem inv_evalW {L : Array Bool} {env : Nat → Value} {a : Act} {w : World} (h : Inv l a0 W F L env a w) {i : Nat} {o : Oper} (hR : okRegionW l a0.tmps.size = true) (hi : l[i]? = some o)
    (hdeps : ∀ e ∈ o.after.toList, Region.binds .any e = true → L.getD e.on false = true) : execOp a.eval o = execOp (rho l a0 env) o := by
  have hok := okRegion_atW hR hi
  unfold okOpW at hok
  simp only [Bool.and_eq_true] at hok
  obtain ⟨⟨⟨⟨_, _⟩, hsel⟩, hops⟩, _⟩ := hok
  refine execOp_congr o (fun cs b e => by rw [e] at hsel; simp [isSelect] at hsel) fun x hx => ?_
  rw [Array.all_eq_true_iff_forall_mem] at hops
  have hx' := hops x hx
  cases x with
  | tmp t =>
    simp only [Act.eval, rho]
    simp only at hx'
    rcases Nat.lt_or_ge t a0.tmps.size with ht | ht
    · have e := h.slots t ht
      have hta : t < a.tmps.size := by rw [h.size]; exact ht
      cases hj : idxOf l t with
      | none =>
        simp only [hj] at e
        simp only [Array.getD_eq_getD_getElem?, e]
      | some j =>
        simp only [hj] at e hx'
        have hl : L.getD j false = true := by
          simp only [Array.any_eq_true', Bool.and_eq_true, beq_iff_eq] at hx'
          obtain ⟨ed, hed, h1, h2⟩ := hx'
          rw [← h1]; exact hdeps ed (by simpa using hed) h2
        rw [hl, if_pos rfl] at e
        simp only [Array.getD_eq_getD_getElem?, e, Option.getD_some]
    · have hta : a.tmps.size ≤ t := by rw [h.size]; exact ht
      cases hj : idxOf l t with
      | none => simp only [Array.getD_eq_getD_getElem?, Array.getElem?_eq_none hta, Array.getElem?_eq_none ht]
      | some j =>
        obtain ⟨oj, h1, h2⟩ := idxOf_dst hj
        have hokj := okRegion_atW hR h1
        unfold okOpW at hokj
        rw [h2] at hokj
        have h3 : (decide (t < a0.tmps.size) && idxOf l t == some j) = true := (Bool.and_eq_true_iff.1 hokj).2
        exact absurd (of_decide_eq_true (Bool.and_eq_true_iff.1 h3).1) (Nat.not_lt.2 ht)
  | const v => rfl
  | global g => rfl
  | func f => rfl

theorem inv_stepW {L : Array Bool} {env : Nat → Value} {a : Act} {w w' : World} {i : Nat} {o : Oper} {v : Value} (h : Inv l a0 W F L env a w) (hR : okRegionW l a0.tmps.size = true) (hi : l[i]? = some o)
    (hst : ∀ i v, F i v w → F i v w') (hb : L.getD i true = false) (hF : F i v w') (hW : W (l.length - left L + 1) w') : Inv l a0 W F (L.setIfInBounds i true) (fun k => if k = i then v else env k) (a.put o.dst v) w' := by
  have hlt : i < l.length := (List.getElem?_eq_some_iff.1 hi).1
  have hiL : i < L.size := by rw [h.len]; exact hlt
  have hok := okRegion_atW hR hi
  unfold okOpW at hok
  simp only [Bool.and_eq_true] at hok
  have hdst := hok.2
  refine ⟨by simp [h.len], ?_, ?_, fun t ht => ?_, fun j hj => ?_, by have e1 := left_set hiL hb; have e2 := left_le h.len; rw [show l.length - left (L.setIfInBounds i true) = l.length - left L + 1 by omega]; exact hW⟩
  · cases hd : o.dst <;> simp [Act.put, h.size]
  · cases hd : o.dst <;> simp [Act.put, h.defers]
  · have e := h.slots t ht
    have hta : t < a.tmps.size := by rw [h.size]; exact ht
    cases hd : o.dst with
    | none =>
      simp only [Act.put, e]
      cases hj : idxOf l t with
      | none => rfl
      | some j =>
        simp only [getD_set hiL]
        have hne : j ≠ i := by
          rintro rfl
          obtain ⟨oj, h1, h2⟩ := idxOf_dst hj
          rw [hi] at h1; injection h1 with h1; subst h1; rw [hd] at h2; cases h2
        rw [if_neg hne, if_neg hne]
    | some d =>
      rw [hd] at hdst
      simp only [Bool.and_eq_true, decide_eq_true_eq, beq_iff_eq] at hdst
      simp only [Act.put, Array.getElem?_setIfInBounds]
      by_cases hdt : d = t
      · subst hdt
        rw [if_pos rfl, if_pos hta, hdst.2]
        simp only [getD_set hiL, if_true]
      · rw [if_neg hdt, e]
        cases hj : idxOf l t with
        | none => rfl
        | some j =>
          simp only [getD_set hiL]
          have hne : j ≠ i := by
            rintro rfl
            obtain ⟨oj, h1, h2⟩ := idxOf_dst hj
            rw [hi] at h1; injection h1 with h1; subst h1; rw [hd] at h2; injection h2 with h2; exact hdt h2
          rw [if_neg hne, if_neg hne]
  · rw [getD_set hiL] at hj
    by_cases e : j = i
    · subst e; simpa using hF
    · rw [if_neg e] at hj ⊢
      exact hst _ _ (h.facts j hj)

theorem all_listedW {L : Array Bool} (hlen : L.size = l.length) (hR : okRegionW l a0.tmps.size = true) (hr : Region.ready .any l.toArray L = []) : ∀ i, i < l.length → L.getD i false = true := by
  intro i
  induction i using Nat.strongRecOn with
  | ind i ih =>
    intro hi
    have ho : l[i]? = some l[i] := by simp
    have hok := okRegion_atW hR ho
    unfold okOpW at hok
    simp only [Bool.and_eq_true] at hok
    have haf := hok.1.1.1.1
    cases hb : L.getD i false with
    | true => rfl
    | false =>
      exfalso
      have hiL : i < L.size := by omega
      have hb' : L.getD i true = false := by
        simp only [Array.getD_eq_getD_getElem?, Array.getElem?_eq_getElem hiL, Option.getD_some] at hb ⊢; exact hb
      have : i ∈ Region.ready .any l.toArray L := by
        unfold Region.ready
        refine List.mem_filter.2 ⟨by simpa using hi, ?_⟩
        simp only [hb', Bool.not_false, Bool.true_and, List.getElem?_toArray, ho, Option.map_some, Option.getD_some]
        rw [Array.all_eq_true_iff_forall_mem] at haf ⊢
        intro e he
        have := haf e he
        cases hbe : Region.binds .any e with
        | false => simp
        | true =>
          simp only [hbe, Bool.not_true, Bool.false_or, decide_eq_true_eq] at this
          rw [ih e.on this (by omega)]
          simp
      rw [hr] at this
      cases this

theorem wanted_env {L : Array Bool} {env : Nat → Value} {a : Act} {w : World} (h : Inv l a0 W F L env a w) {i : Nat} {o : Oper} (hR : okRegionW l a0.tmps.size = true) (hi : l[i]? = some o)
    (hdeps : ∀ e ∈ o.after.toList, Region.binds .any e = true → L.getD e.on false = true) : Region.wanted o (yielded l.toArray a.tmps) = wantB env o := by
  have hok := okRegion_atW hR hi
  unfold okOpW at hok
  simp only [Bool.and_eq_true] at hok
  have hg := hok.1.1.1.2
  unfold okGuard at hg
  unfold Region.wanted wantB
  cases hgd : o.guard with
  | none => rfl
  | some p =>
    obtain ⟨j, b⟩ := p
    rw [hgd] at hg
    simp only [Bool.and_eq_true, Array.any_eq_true', beq_iff_eq] at hg
    obtain ⟨⟨ed, hed, h1, h2⟩, h3⟩ := hg
    cases hd : (l[j]?).bind (·.dst) with
    | none => rw [hd] at h3; cases h3
    | some t =>
      rw [hd] at h3
      have h3 : idxOf l t = some j := by simpa using h3
      have hl : L.getD j false = true := by rw [← h1]; exact hdeps ed (by simpa using hed) h2
      have ht : t < a0.tmps.size := by
        obtain ⟨oj, hj, hdj⟩ := idxOf_dst h3
        have hokj := okRegion_atW hR hj
        unfold okOpW at hokj
        rw [hdj] at hokj
        simp only [Bool.and_eq_true, decide_eq_true_eq] at hokj
        exact hokj.2.1
      have e := h.slots t ht
      simp only [h3] at e
      rw [hl, if_pos rfl] at e
      have hy : yielded l.toArray a.tmps j = match env j with | .bool c => some c | _ => none := by
        unfold yielded
        simp only [List.getElem?_toArray, hd, Option.bind_some, e]
        cases env j <;> rfl
      simp only [hy]
      cases env j <;> rfl
end
section
variable {P : Program} {l : List Oper} {a0 : Act} {W : Nat → World → Prop} {Tr : Nat → World → World → Prop} {F : Nat → (Nat → Value) → World → Prop} {dead : Nat → Nat → Bool}
theorem any_of_envw {Q : Exit → Act → World → Prop} (hR : okRegionW l a0.tmps.size = true) (hD : okDead l dead = true) (hGL : okGuardLive l dead = true)
    (hcg : ∀ j env env' w, j < l.length → (∀ i, (i = j ∨ ancB l l.length j i = true) → env i = env' i) → F j env w → F j env' w)
    (hst : ∀ i j k env w w', i < l.length → j < l.length → i ≠ j → dead i j = false → ancB l l.length j i = false → W k w → Tr i w w' → F j env w → F j env w')
    (hstep : ∀ i o, l[i]? = some o → ∀ k env w, k < l.length → W k w → (∀ e ∈ o.after.toList, dataB e = true → F e.on env w) → GuardF F env w o → YieldW P o (wantB env o) (rho l a0 env) w (fun v w' => F i (upd env i v) w' ∧ W (k + 1) w' ∧ Tr i w w'))
    (hfin : ∀ env w, W l.length w → (∀ j, j < l.length → (∀ i, i < l.length → dead i j = false) → F j env w) → Q .normal (after l a0 env) w) :
    ∀ (fuel : Nat) (L : Array Bool) (env : Nat → Value) (a : Act) (w : World), left L ≤ fuel → Inv0 l a0 W L env a w → Closed l (fun i => L.getD i false) →
      (∀ j, L.getD j false = true → Alive dead (fun i => L.getD i false) j → F j env w) → wpAny P .any l.toArray Q fuel L a w := by
  intro fuel
  induction fuel with
  | zero =>
    intro L env a w hf h hc hF
    have hall : ∀ i, i < l.length → L.getD i false = true := fun i hi => left_zero (by omega) i (by rw [h.len]; exact hi)
    refine ⟨?_, ?_⟩
    · unfold Region.ready
      rw [List.filter_eq_nil_iff]
      intro i hi
      have hi' : i < l.length := by simpa using hi
      have hiL : i < L.size := by rw [h.len]; exact hi'
      have := hall i hi'
      simp only [Array.getD_eq_getD_getElem?, Array.getElem?_eq_getElem hiL, Option.getD_some] at this ⊢
      simp [this]
    · rw [inv_after h hall]
      exact hfin env w (by have := h.world; rwa [left_none h.len hall, Nat.sub_zero] at this) (fun j hj hd => hF j (hall j hj) (fun i hi => hd i (by have := getD_true_lt hi; rwa [h.len] at this)))
  | succ fuel ih =>
    intro L env a w hf h hc hF
    refine ⟨fun hr => ?_, fun i hi => ?_⟩
    · have hall := all_listedW h.len hR hr
      rw [inv_after h hall]
      exact hfin env w (by have := h.world; rwa [left_none h.len hall, Nat.sub_zero] at this) (fun j hj hd => hF j (hall j hj) (fun i hi => hd i (by have := getD_true_lt hi; rwa [h.len] at this)))
    · unfold Region.ready at hi
      obtain ⟨h1, h2⟩ := List.mem_filter.1 hi
      have hi' : i < l.length := by simpa using h1
      have ho : l[i]? = some l[i] := by simp
      simp only [List.getElem?_toArray, ho, Option.map_some, Option.getD_some, Bool.and_eq_true, Bool.not_eq_true'] at h2
      obtain ⟨hb, hdep⟩ := h2
      have hdeps : ∀ e ∈ l[i].after.toList, Region.binds .any e = true → L.getD e.on false = true := by
        intro e he hbe
        rw [Array.all_eq_true_iff_forall_mem] at hdep
        have := hdep e (by simpa using he)
        simpa [hbe] using this
      have hiL : i < L.size := by rw [h.len]; exact hi'
      have hbF : L.getD i false = false := by
        simp only [Array.getD_eq_getD_getElem?, Array.getElem?_eq_getElem hiL, Option.getD_some] at hb ⊢; exact hb
      have hok := okRegion_atW hR ho
      unfold okOpW at hok
      simp only [Bool.and_eq_true] at hok
      have hgd := wanted_env h hR ho hdeps
      have hlt := left_set hiL hb
      have hle := left_le h.len
      have halive : ∀ e ∈ l[i].after.toList, dataB e = true → F e.on env w := by
        intro e he hbd
        have hbe := dataB_binds hbd
        refine hF _ (hdeps e he hbe) fun i' hi'' => ?_
        cases hdd : dead i' e.on with
        | false => rfl
        | true =>
          exfalso
          have hl' : i' < l.length := by have := getD_true_lt hi''; rwa [h.len] at this
          have hj' : e.on < l.length := by have := getD_true_lt (hdeps e he hbe); rwa [h.len] at this
          rcases okDead_at hD hl' hj' hdd ho he hbd rfl with rfl | ha
          · have hx : L.getD _ false = true := hi''
            rw [hbF] at hx; cases hx
          · have hx : L.getD i false = true := closed_anc hc _ _ _ ha hi''
            rw [hbF] at hx; cases hx
      have hgf : GuardF F env w l[i] := by
        unfold GuardF
        cases hgq : l[i].guard with
        | none => trivial
        | some p =>
          obtain ⟨j, b⟩ := p
          have hog := hok.1.1.1.2
          unfold okGuard at hog
          rw [hgq] at hog
          simp only [Bool.and_eq_true, Array.any_eq_true', beq_iff_eq] at hog
          obtain ⟨⟨ed, hed, h1', h2'⟩, _⟩ := hog
          have hjl : L.getD j false = true := by rw [← h1']; exact hdeps ed (by simpa using hed) h2'
          refine hF j hjl fun i' hi'' => ?_
          have hl' : i' < l.length := by have := getD_true_lt hi''; rwa [h.len] at this
          unfold okGuardLive at hGL
          have hx := (List.all_eq_true.1 hGL) l[i] (List.mem_of_getElem? ho)
          rw [hgq] at hx
          have hx2 := (List.all_eq_true.1 hx) i' (List.mem_range.2 hl')
          simpa using hx2
      have hy := hstep i l[i] ho _ env w (by omega) h.world halive hgf
      have goal : ∀ v w', F i (upd env i v) w' ∧ W (l.length - left L + 1) w' ∧ Tr i w w' → wpAny P .any l.toArray Q fuel (L.setIfInBounds i true) (a.put l[i].dst v) w' := fun v w' hv => ?_
      · unfold wpOp
        simp only [List.getElem?_toArray, ho]
        rw [hgd]
        unfold YieldW at hy
        cases hwt : wantB env l[i] with
        | true =>
          rw [hwt] at hy
          have hy' : Yield P l[i] a.eval w (fun v w' => F i (upd env i v) w' ∧ W (l.length - left L + 1) w' ∧ Tr i w w') := by
            simp only [if_true] at hy
            unfold Yield at hy ⊢
            rw [inv_evalW h hR ho hdeps]; exact hy
          rw [if_pos rfl]
          exact .inl (wp_of_yield hy' goal)
        | false =>
          rw [hwt] at hy
          rw [if_neg (by simp)]
          simp only [Bool.false_eq_true, if_false] at hy
          exact goal _ _ hy
      refine (ih (L.setIfInBounds i true) (upd env i v) _ _ (by omega) (inv_stepW h hR ho (fun _ _ _ => trivial) hb trivial hv.2.1) ?_ ?_)
      · intro i' o' ho' hl' e he hbe
        simp only [getD_set hiL] at hl' ⊢
        by_cases ei : e.on = i
        · rw [if_pos ei]
        · rw [if_neg ei]
          by_cases e2 : i' = i
          · subst e2
            rw [ho] at ho'; injection ho' with ho'; subst ho'
            exact hdeps e he hbe
          · rw [if_neg e2] at hl'
            exact hc i' o' ho' hl' e he hbe
      · intro j hj hal
        rw [getD_set hiL] at hj
        by_cases e2 : j = i
        · subst e2; exact hv.1
        · rw [if_neg e2] at hj
          have hjl : j < l.length := by have := getD_true_lt hj; rwa [h.len] at this
          have hanc : ancB l l.length j i = false := by
            cases hx : ancB l l.length j i with
            | false => rfl
            | true =>
              have hy : L.getD i false = true := closed_anc hc _ _ _ hx hj
              rw [hbF] at hy; cases hy
          refine hcg j env _ _ hjl (fun q hq => ?_) ?_
          · refine (upd_other env v fun e => ?_).symm
            subst e
            rcases hq with hq | hq
            · exact e2 hq.symm
            · rw [hanc] at hq; cases hq
          · refine hst i j _ env _ _ hi' hjl (fun e => e2 e.symm) (hal i (by simp only [getD_set hiL]; simp)) hanc h.world hv.2.2 (hF j hj fun i' hi'' => hal i' ?_)
            simp only [getD_set hiL]
            by_cases e3 : i' = i
            · rw [if_pos e3]
            · rw [if_neg e3]; exact hi''
/-- Each operation, walked once. -/
def StepsEW (P : Program) (l : List Oper) (a0 : Act) (W : Nat → World → Prop) (Tr : Nat → World → World → Prop) (F : Nat → (Nat → Value) → World → Prop) : Nat → List Oper → Prop
  | _, [] => True
  | i, o :: rest => (∀ (k : Nat) (ρ : Operand → Value) (env : Nat → Value) (w : World), k < l.length → (∀ v, ρ (.const v) = v) → (∀ f, ρ (.func f) = .func (.func f) #[] #[]) → (∀ g, ρ (.global g) = .pointer (some ⟨g, 0, none⟩)) → (∀ t, ρ (.tmp t) = match idxOf l t with | some j => env j | none => a0.tmps.getD t undef) → W k w →
      DepsE l F env w o.after.toList → GuardF F env w o → YieldW P o (wantB env o) ρ w (fun v w' => F i (upd env i v) w' ∧ W (k + 1) w' ∧ Tr i w w')) ∧ StepsEW P l a0 W Tr F (i + 1) rest
theorem stepsEW_at {ls : List Oper} {m : Nat} (h : StepsEW P l a0 W Tr F m ls) : ∀ (j : Nat) (o : Oper), ls[j]? = some o →
    (∀ (k : Nat) (ρ : Operand → Value) (env : Nat → Value) (w : World), k < l.length → (∀ v, ρ (.const v) = v) → (∀ f, ρ (.func f) = .func (.func f) #[] #[]) → (∀ g, ρ (.global g) = .pointer (some ⟨g, 0, none⟩)) → (∀ t, ρ (.tmp t) = match idxOf l t with | some j => env j | none => a0.tmps.getD t undef) → W k w →
      DepsE l F env w o.after.toList → GuardF F env w o → YieldW P o (wantB env o) ρ w (fun v w' => F (m + j) (upd env (m + j) v) w' ∧ W (k + 1) w' ∧ Tr (m + j) w w')) := by
  induction ls generalizing m with
  | nil => intro j o h; simp at h
  | cons x xs ih =>
    intro j o hj
    cases j with
    | zero => simp at hj; subst hj; exact h.1
    | succ j =>
      have := ih h.2 j o (by simpa using hj)
      rw [show m + (j + 1) = m + 1 + j by omega]
      exact this
/-- The law. -/
theorem wp_region_envw {id : Nat} {Q : Exit → Act → World → Prop} {w : World} (hm : P.follows .mixedOrders = true) (hR : okRegionW l a0.tmps.size = true) (hD : okDead l dead = true) (hGL : okGuardLive l dead = true) (hW : W 0 w.drew)
    (hcg : ∀ j env env' w, j < l.length → (∀ i, (i = j ∨ ancB l l.length j i = true) → env i = env' i) → F j env w → F j env' w)
    (hst : ∀ i j k env w w', i < l.length → j < l.length → i ≠ j → dead i j = false → ancB l l.length j i = false → W k w → Tr i w w' → F j env w → F j env w') (hstep : StepsEW P l a0 W Tr F 0 l)
    (hfin : ∀ env w, W l.length w → (∀ j, j < l.length → (∀ i, i < l.length → dead i j = false) → F j env w) → Q .normal (after l a0 env) w) : (Code.region id l.toArray true).wp P Q a0 w := by
  refine wp_region_any hm ?_
  refine any_of_envw hR hD hGL hcg hst (fun i o hi k env w hk hw hd hgf => ?_) hfin _ _ (fun _ => undef) a0 _ ?_ ⟨by simp, rfl, rfl, fun t ht => ?_, fun i hi => trivial, by rw [left_rep]; simpa using hW⟩ ?_ ?_
  · have := stepsEW_at hstep i o hi k (rho l a0 env) env w hk (fun _ => rfl) (fun _ => rfl) (fun _ => rfl) (fun t => rfl) hw (depsE_of _ hd)
    simp only [Nat.zero_add] at this
    exact this hgf
  · unfold left
    have := List.countP_le_length (p := fun b : Bool => !b) (l := (Array.replicate l.toArray.size false).toList)
    simpa using this
  · cases idxOf l t with
    | none => rfl
    | some j => simp only [rep_false, Bool.false_eq_true, if_false]
  · intro i o _ hl
    have hx : (Array.replicate l.toArray.size false).getD i false = true := hl
    rw [rep_false] at hx; cases hx
  · intro j hj; rw [rep_false] at hj; cases hj
end
theorem yieldW_on {P : Program} {o : Oper} {want : Bool} {ρ : Operand → Value} {w : World} {R : Value → World → Prop} (h : want = true) (hy : Yield P o ρ w R) : YieldW P o want ρ w R := by
  unfold YieldW; rw [if_pos h]; exact hy
theorem yieldW_off {P : Program} {o : Oper} {want : Bool} {ρ : Operand → Value} {w : World} {R : Value → World → Prop} (h : want = false) (hr : R undef w) : YieldW P o want ρ w R := by
  unfold YieldW; rw [if_neg (by rw [h]; simp)]; exact hr
end Go.Proofs.YtoagpfdhbcgdcaaDoor
end
