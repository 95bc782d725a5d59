/- The contracts of the reader that the draws share: it is opened over a code, and each pick returns a number in its range and turns the reader alone. -/
import Derived.Test.YtlfjnaeepblhiaaWords
import Derived.Laws.BitsAllLaws
import Derived.Laws.BitsLemmas
namespace Go.Proofs.Ytlfjnaeepblhiaa
open Go.RowKit
set_option linter.unusedVariables false

abbrev bytes (xs : List Int) : List Value := xs.map (Value.int .u8)
/-- Block g is a reader that has picked p times. -/
def Rd (w : World) (g p : Nat) : Prop :=
  ∃ (A : Option Addr) (n c : Nat) (xs : List Int), w.heap[g]? = some (.cells #[.slice A n c, .int .i64 p] 98 (0, 0)) ∧ Sl w A n c 1 (bytes xs) ∧ (∀ x ∈ xs, 0 ≤ x ∧ x ≤ 255) ∧ n ≤ 2000 ∧ (bytes xs ≠ [] → ∀ ad, A = some ad → ad.block < g)

theorem Rd.lt {w : World} {g p : Nat} (h : Rd w g p) : g < w.heap.size := by
  obtain ⟨A, n, c, xs, hg, _⟩ := h
  exact (Array.getElem?_eq_some_iff.1 hg).1
theorem Rd.below {w w' : World} {g p : Nat} (h : Rd w g p) (hb : Below w.heap.size w w') : Rd w' g p := by
  have hlt := h.lt
  obtain ⟨A, n, c, xs, hg, hs, r⟩ := h
  exact ⟨A, n, c, xs, (hb.block g hlt).trans hg, hs.below hb, r⟩
theorem Rd.drewN {w : World} {g p : Nat} (h : Rd w g p) (k : Nat) : Rd (w.drewN k) g p := by
  obtain ⟨A, n, c, xs, hg, hs, r⟩ := h
  exact ⟨A, n, c, xs, hg, hs.drewN k, r⟩
theorem Rd.grown {w w' : World} {g p : Nat} (h : Rd w g p) {row : Option Nat} (hg : w.grownBy w' row) (hr : ∀ k, row = some k → g < k) : Rd w' g p := by
  have hlt := h.lt
  obtain ⟨A, n, c, xs, hb, hs, hx, hn, hA⟩ := h
  refine ⟨A, n, c, xs, (hg.block g hlt (fun e => ?_)).trans hb, hs.grown hg (fun hv ad ha e => ?_), hx, hn, hA⟩
  · have := hr g e.symm; omega
  · have h1 := hr _ e.symm; have h2 := hA hv ad ha; omega

theorem Rd.stored {w : World} {g p : Nat} (h : Rd w g p) : Rd (w.setCell ⟨g, 1, none⟩ (.int .i64 ((p : Int) + 1))) g (p + 1) ∧ w.grownBy (w.setCell ⟨g, 1, none⟩ (.int .i64 ((p : Int) + 1))) (some g) := by
  obtain ⟨A, n, c, xs, hg, hs, hx, hn, hA⟩ := h
  refine ⟨⟨A, n, c, xs, ?_, ⟨hs.see.setCell (p := ⟨g, 1, none⟩) (fun hv ad ha => by have := hA hv ad ha; show ad.block ≠ g; omega) _, hs.len, hs.cap, hs.max⟩, hx, hn, hA⟩,
    ⟨rfl, rfl, rfl, by simp, fun k _ hk => heap_setCell_other w ⟨g, 1, none⟩ k _ (fun e => hk (by simp [e]))⟩⟩
  have := heap_setCell_same w g 1 _ 98 (.int .i64 ((p : Int) + 1)) hg
  simpa using this
theorem bytes_at {xs : List Int} {k : Nat} (hk : k < xs.length) : ∃ x, x ∈ xs ∧ (bytes xs)[k]? = some (.int .u8 x) := ⟨xs[k], by simp, by simp [bytes, hk]⟩

theorem ofInt_small (a : Nat) (ha : a < 9223372036854775808) : (BitVec.ofInt 64 (a : Int)).toNat = a := by
  rw [BitVec.ofInt_natCast, BitVec.toNat_ofNat]; exact Nat.mod_eq_of_lt (by omega)
theorem xor_small (z : Int) (h0 : 0 ≤ z) (h1 : z ≤ 1000000000) : 0 ≤ bits .xor .i64 z (z / 64) := by
  obtain ⟨k, rfl⟩ := Int.eq_ofNat_of_zero_le h0
  have e : ((k : Int) / 64) = ((k / 64 : Nat) : Int) := by omega
  have hx : k ^^^ k / 64 < 2 ^ 63 := Nat.xor_lt_two_pow (by omega) (by omega)
  rw [e]
  show 0 ≤ IntKind.i64.wrap ((BitVec.ofInt 64 (k : Int) ^^^ BitVec.ofInt 64 ((k / 64 : Nat) : Int)).toNat : Int)
  rw [BitVec.toNat_xor, ofInt_small k (by omega), ofInt_small (k / 64) (by omega), IntKind.wrap_i64]
  omega
theorem pick_range {z n : Int} (h0 : 0 ≤ z) (h1 : z ≤ 1000000000) (hn : 1 ≤ n) : 0 ≤ (bits .xor .i64 z (z / 64)).tmod n ∧ (bits .xor .i64 z (z / 64)).tmod n < n := by
  have h := xor_small z h0 h1
  rw [Int.tmod_eq_emod_of_nonneg h]
  exact ⟨Int.emod_nonneg _ (by omega), Int.emod_lt_of_pos _ (by omega)⟩
theorem pick_any (g p : Nat) (n : Int) (w : World) (h : Rd w g p) (hp : p ≤ 100000) (h1 : 1 ≤ n) (h2 : n ≤ 1048576) :
    Calls Try.prog 44 #[.pointer (some ⟨g, 0, none⟩), .int .i64 n] w fun e w' => ∃ q : Int, e = .returned (.int .i64 q) ∧ 0 ≤ q ∧ q < n ∧ Rd w' g (p + 1) ∧ w.grownBy w' (some g) := by
  have st := hid h.stored
  obtain ⟨A, m, c, xs, hg, hs, hx, hm, hA⟩ := h
  have c0 : w.cell? ⟨g, 0, none⟩ = some (.slice A m c) := cell_of_row w g 0 _ _ _ hg
  have c1 : w.cell? ⟨g, 1, none⟩ = some (.int .i64 p) := cell_of_row w g 1 _ _ _ hg
  have f1 : w.frozen? ⟨g, 1, none⟩ = false := frozen_of_row w g 1 _ _ hg
  have hmax := hs.max
  have hcap := hs.cap
  unfold maxLen at hmax
  have hlen : xs.length = m := by have := hs.len; simpa using this
  clear hg
  by_cases m0 : m = 0
  · have hb : ((m : Int) == 0) = true := by simp [m0]
    clear hs hA hx hlen hcap hmax m0
    go_enter Try.func44, Try.ntmps44
    go_wp2
    go_ret
    exact ⟨0, rfl, by omega, by omega, st.out.1, st.out.2⟩
  · have hb : ((m : Int) == 0) = false := by simp [m0]
    by_cases hpm : p < m
    · obtain ⟨ad, rfl, hsee⟩ := hs.see.ad (k := p) (by rw [hs.len]; omega)
      obtain ⟨x, hxm, hx'⟩ := bytes_at (xs := xs) (k := p) (by omega)
      have cc := hsee p _ hx'
      have cx := (World.cell?_setCell_other w ⟨g, 1, none⟩ (ad.add p) (.int .i64 ((p : Int) + 1)) (fun e => by have h1 := hA (by intro e; have := congrArg List.length e; rw [hs.len] at this; simp at this; omega) ad rfl; have h2 := congrArg Addr.block e; rw [addr_block] at h2; simp at h2; omega)).trans cc
      obtain ⟨x0, x255⟩ := hx x hxm
      clear hs hA hx hlen hcap hmax m0 hsee hx' hxm
      go_enter Try.func44, Try.ntmps44
      go_wp2
      go_ret
      exact ⟨x % n, rfl, Int.emod_nonneg _ (by omega), Int.emod_lt_of_pos _ (by omega), st.out.1, st.out.2⟩
    · have hm1 : 0 < m := by omega
      have r1 : p % m < m := Nat.mod_lt _ hm1
      have r2 : (p * 7 + 3) % m < m := Nat.mod_lt _ hm1
      obtain ⟨ad, rfl, hsee⟩ := hs.see.ad (k := 0) (by rw [hs.len]; omega)
      obtain ⟨x, hxm, hx'⟩ := bytes_at (xs := xs) (k := p % m) (by omega)
      obtain ⟨y, hym, hy'⟩ := bytes_at (xs := xs) (k := (p * 7 + 3) % m) (by omega)
      have cx := (World.cell?_setCell_other w ⟨g, 1, none⟩ (ad.add (p % m)) (.int .i64 ((p : Int) + 1)) (fun e => by have h1 := hA (by intro e; have := congrArg List.length e; rw [hs.len] at this; simp at this; omega) ad rfl; have h2 := congrArg Addr.block e; rw [addr_block] at h2; simp at h2; omega)).trans (hsee _ _ hx')
      have cy := (World.cell?_setCell_other w ⟨g, 1, none⟩ (ad.add ((p * 7 + 3) % m)) (.int .i64 ((p : Int) + 1)) (fun e => by have h1 := hA (by intro e; have := congrArg List.length e; rw [hs.len] at this; simp at this; omega) ad rfl; have h2 := congrArg Addr.block e; rw [addr_block] at h2; simp at h2; omega)).trans (hsee _ _ hy')
      obtain ⟨x0, x255⟩ := hx x hxm
      obtain ⟨y0, y255⟩ := hx y hym
      clear hs hA hx hlen hcap hmax m0 hsee hx' hxm hy' hym
      go_enter Try.func44, Try.ntmps44
      have c0' : (w.setCell ⟨g, 1, none⟩ (.int .i64 ((p : Int) + 1))).cell? ⟨g, 0, none⟩ = some (.slice (some ad) m c) := (World.cell?_setCell_other w ⟨g, 1, none⟩ ⟨g, 0, none⟩ _ (by simp)).trans c0
      go_wp2
      have hI1 : 0 ≤ ((p : Int) * 7 + 3) % (m : Int) := Int.emod_nonneg _ (by omega)
      have hI2 : ((p : Int) * 7 + 3) % (m : Int) < m := Int.emod_lt_of_pos _ (by omega)
      have hI3 : (((p : Int) * 7 + 3) % (m : Int)).toNat = (p * 7 + 3) % m := by
        rw [show ((p : Int) * 7 + 3) % (m : Int) = (((p * 7 + 3) % m : Nat) : Int) by push_cast; rfl, Int.toNat_natCast]
      have hD : (p : Int) / m ≤ 100000 := Int.le_trans (Int.ediv_le_self _ (by omega)) (by omega)
      have hD0 : 0 ≤ (p : Int) / m := Int.ediv_nonneg (by omega) (by omega)
      go_quiet (fail)
      clear hI1 hI2 hI3
      go_wp2
      go_ret
      have hr := pick_range (z := x * 131 + y * 1117 + (p : Int) * 29 + (p : Int) / m * 53) (n := n) (by omega) (by omega) h1
      exact ⟨_, rfl, hr.1, hr.2, st.out.1.drewN _, ⟨st.out.2.os, st.out.2.tape, st.out.2.output, st.out.2.size, st.out.2.block⟩⟩
end Go.Proofs.Ytlfjnaeepblhiaa
