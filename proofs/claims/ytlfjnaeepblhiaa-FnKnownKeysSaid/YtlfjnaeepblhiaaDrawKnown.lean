/- The contract of the draw of keys and of activities. -/
import Derived.Test.YtlfjnaeepblhiaaDrawAcs
import Derived.Test.YtlfjnaeepblhiaaStringMem
namespace Go.Proofs.Ytlfjnaeepblhiaa
open Go.RowKit
set_option linter.unusedVariables false
set_option linter.unusedSimpArgs false
theorem markS_small (k : Int) (h0 : 0 ≤ k) (h1 : k < 36) (w : World) : Calls Try.prog 51 #[.int .i64 k] w fun e w' => ∃ s : ByteArray, e = .returned (.string s) ∧ s.size ≤ 200 ∧ Ext.of w w' := by
  have x1 : inB k 0 1000000000 = true := inB_yes ⟨h0, by omega⟩
  have e1 := Int.tmod_eq_emod_of_nonneg (a := k) (b := 36) h0
  have e2 : k % 36 = k := Int.emod_eq_of_lt h0 h1
  go_enter Try.func51, Try.ntmps51
  go_wp2_with (go_at_call 65; refine (l1In_any _ _ _ _).mono ?_; rintro e' w' ⟨rfl, rfl⟩)
  go_loopw [0, 4] (fun v s wr => v = .int .i64 k ∧ (∃ x : ByteArray, s = .string x ∧ x.size ≤ 200) ∧ wr = w) (fun _ _ _ => 0)
  case atStart => exact ⟨rfl, ⟨_, rfl, by simp; omega⟩, rfl⟩
  case round =>
    obtain ⟨rfl, ⟨x, rfl, hx⟩, rfl⟩ := hrel
    go_wp2
    go_ret
    exact ⟨x, rfl, hx, Ext.of.refl _⟩
set_option maxRecDepth 8000 in
set_option maxHeartbeats 1000000 in
theorem drawKnown_any (A : Option Addr) (n c : Nat) (xs : List Int) (w : World) (h : Row .u8 w A n c xs) :
    Calls Try.prog 17 #[.slice A n c] w fun e w' => ∃ B m d ks C k q ys, e = .returned (.tuple #[.slice B m d, .slice C k q]) ∧ w'.ownsRow w.heap.size 9 1 (.slice B m d) m (sts ks) ∧ m ≤ 3 ∧ w'.ownsRow w.heap.size 29 5 (.slice C k q) k (acs ys) ∧ acOk ys ∧ k ≤ 31 ∧ Below w.heap.size w w' := by
  go_enter Try.func17, Try.ntmps17
  go_wp2_with fail
  refine (open_any A n c xs w h.sl h.byte).mono ?_
  rintro e w1 ⟨rfl, R1, B1⟩
  have O0 := own_empty w1 9 1
  have hg1 : w.heap.size < w1.heap.size := R1.lt
  have R1 := R1.alloc (.cells #[] 9)
  have B1 := B1.alloc B1.size (.cells #[] 9)
  clear h
  go_wp2_with fail
  refine (pick_any _ 0 4 _ R1 (by omega) (by omega) (by omega)).mono ?_
  rintro e w2 ⟨q, rfl, q0, q1, R2, G2⟩
  have O2 : w2.ownsRow w1.heap.size 9 1 (.slice (some ⟨w1.heap.size, 0, none⟩) 0 0) 0 (sts []) := O0.kept G2 (.inr (by simp [Value.ownBlock]; omega))
  have B2 := B1.grown G2 B1.size (by rintro _ ⟨rfl⟩; exact Nat.le_refl _)
  have hq : q ≤ 3 := by omega
  clear O0 R1 B1 G2
  go_wp2_with fail
  go_loopw [5, 6] (fun v i wr => ∃ (k m d : Nat) (B : Option Addr) (ks : List St), i = .int .i64 k ∧ v = .slice B m d ∧ wr.ownsRow w1.heap.size 9 1 (.slice B m d) m (sts ks) ∧ m + k ≤ 3 ∧ Rd wr w.heap.size 1 ∧ w1.heap.size ≤ wr.heap.size ∧ Below w.heap.size w wr) (fun _ i _ => (intOf i).toNat)
  case atStart =>
    obtain ⟨k, rfl⟩ := Int.eq_ofNat_of_zero_le q0
    exact ⟨k, 0, 0, _, [], rfl, rfl, O2, by omega, R2, (O2.lt _ rfl).2 |> Nat.le_of_lt, B2⟩
  case round =>
    obtain ⟨k, m, d, B, ks, rfl, rfl, O, hm, R, hw, hB⟩ := hrel
    clear O2 R2 B2
    by_cases hk0 : 0 < k
    · go_wp2_with fail
      refine (markS_small k (by omega) (by omega) _).mono ?_
      rintro e w3 ⟨s, rfl, hs, x3⟩
      have O := own_ext O x3
      have R := R.below x3.below
      have hB := below_next hB x3.below
      have hw := Nat.le_trans hw x3.below.size
      have HB := hid (show w1.heap.size ≤ (w3.alloc (.cells (stC (⟨#[107]⟩ ++ s)).toArray 9)).heap.size from Nat.le_trans hw (by simp))
      clear x3
      go_wp2_with (at_builtin; refine wpList_append_see _ rfl (.tmp 16) (.tmp 20) eltString rfl w1.heap.size _ m (sts ks) rfl (O.alloc _) (some ⟨w3.heap.size, 0, none⟩) 1 1 (stC (⟨#[107]⟩ ++ s)) rfl (see_new _ (stC (⟨#[107]⟩ ++ s)) _ _ rfl) (by simp) rfl (stC_one _) (by unfold maxLen; omega) (by omega) HB.out ?_; intro v4 w4 O4 G4 _)
      rw [show sts ks ++ stC (⟨#[107]⟩ ++ s) = sts (ks ++ [⟨#[107]⟩ ++ s]) by simp [flat]] at O4
      have hB4 := (hB.alloc hB.size (.cells (stC (⟨#[107]⟩ ++ s)).toArray 9)).grown G4 (Nat.le_trans hB.size (by simp)) (fun q hq => by have := (O.lt q hq).1; omega)
      have R4 := (R.alloc (.cells (stC (⟨#[107]⟩ ++ s)).toArray 9)).grown G4 (fun q hq => by have := (O.lt q hq).1; omega)
      have hw4 := Nat.le_trans HB.out G4.size
      obtain ⟨B4, d4, rfl, _⟩ := own_form O4
      clear O R G4 hB
      go_wp2_with fail
      go_roundw
      case rel => exact ⟨k - 1, m + 1, d4, B4, _, by go_num, rfl, O4, by omega, R4, hw4, hB4⟩
      case measure => simp [intOf]; omega
    · obtain rfl : k = 0 := by omega
      have HM := hid (show m ≤ 3 by omega)
      clear hk0 hm
      go_wp2_with fail
      refine (activities_any w.heap.size 1 9 _ R (by omega) (by omega) (by omega)).mono ?_
      rintro e w3 ⟨C, k3, q3, ys, rfl, O3, hok, hk3, p3, l3, l4, R3, G3⟩
      have O := O.kept G3 (by right; intro e; have := (O.lt _ e).1; omega)
      have hB3 := hB.grown G3 hB.size (by rintro _ ⟨rfl⟩; exact Nat.le_refl _)
      have O3 := own_lower O3 hB.size
      have O := own_lower O (show w.heap.size ≤ w1.heap.size by omega)
      have HOK := hid hok
      clear R R3 G3 hB l3 l4 hok
      go_wp2_with fail
      go_ret2
      exact ⟨B, m, d, ks, C, k3, q3, ys, rfl, O, HM.out, O3, HOK.out, hk3, hB3⟩
end Go.Proofs.Ytlfjnaeepblhiaa
