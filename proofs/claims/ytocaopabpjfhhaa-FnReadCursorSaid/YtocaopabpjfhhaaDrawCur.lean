/- The contract of the draw of a cursor's text and a page's size. -/
import Derived.Test.YtocaopabpjfhhaaDraw
import Derived.Test.YtocaopabpjfhhaaCursor
namespace Go.Proofs.Ytocaopabpjfhhaa
open Go.RowKit
set_option linter.unusedVariables false

theorem cursorB_size (x m : Int) : (cursorB x m).size ≤ 14 := by
  by_cases h : (0 ≤ x ∧ x ≤ 40) ∧ (1 ≤ m ∧ m ≤ 40)
  · rw [cursorB_yes h.1 h.2, ByteArray.size_append, ByteArray.size_append, ByteArray.size_append]
    have := markB_size x
    have := markB_size ((x * 31 + m) % 36)
    show 1 + _ + 1 + _ ≤ 14
    omega
  · rw [cursorB_no h]; show 0 ≤ 14; omega
theorem Turn.up {w w1 w2 : World} {g p p1 k k1 : Nat} (h : Turn w w1 g p k) (h1 : ∀ p', p' ≤ p + k → Rd w1 g p' → Turn w1 w2 g p' k1) : Turn w w2 g p (k + k1) := by
  obtain ⟨p', a, b, R, G⟩ := h
  obtain ⟨p2, a2, b2, R2, G2⟩ := h1 p' b R
  exact ⟨p2, by omega, by omega, R2, G.trans G2⟩
theorem strs_at {W W' : World} {B g : Nat} {L : List ByteArray} {T : TypeId} (hb : W.heap[B]? = some (.cells (L.map Value.string).toArray T (0, 0))) (hg : W.grownBy W' (some g)) (hne : B ≠ g) {q : Int} (h0 : 0 ≤ q) (h1 : q < L.length) :
    ∃ x, x ∈ L ∧ W'.cell? ⟨B, q.toNat, none⟩ = some (.string x) := by
  have hlt := (Array.getElem?_eq_some_iff.1 hb).1
  have hq : q.toNat < L.length := by omega
  refine ⟨L[q.toNat], by simp, ?_⟩
  rw [cell_of_row W' B q.toNat _ T (0, 0) ((hg.block B hlt (by simpa using hne)).trans hb)]
  simp [hq]

theorem lit_new (w : World) (L : List Int) (T : TypeId) {q : Int} (h0 : 0 ≤ q) (h1 : q < L.length) : ∃ x, x ∈ L ∧ (w.alloc (.cells (ints L).toArray T)).cell? ⟨w.heap.size, q.toNat, none⟩ = some (.int .i64 x) := by
  have hq : q.toNat < L.length := by omega
  refine ⟨L[q.toNat], by simp, ?_⟩
  rw [cell_of_row _ w.heap.size q.toNat _ T (0, 0) (heap_alloc_new w _)]
  simp [ints, hq]
theorem lit_new2 (w : World) (a b : Int) (T : TypeId) {q : Int} (h0 : 0 ≤ q) (h1 : q < 2) : ∃ x, x ∈ [a, b] ∧ (w.alloc (.cells #[.int .i64 a, .int .i64 b] T)).cell? ⟨w.heap.size, q.toNat, none⟩ = some (.int .i64 x) :=
  lit_new w [a, b] T h0 (by simpa using h1)
theorem drawRead_any (A : Option Addr) (n c : Nat) (xs : List Int) (w : World) (h : Row .u8 w A n c xs) :
    Calls Try.prog 37 #[.slice A n c] w fun e w' => ∃ (s : ByteArray) (m : Int), e = .returned (.tuple #[.string s, .int .i64 m]) ∧ s.size ≤ 20 ∧ 0 ≤ m ∧ m ≤ 41 ∧ Below w.heap.size w w' := by
  go_enter Try.func37, Try.ntmps37
  go_wp2_with fail
  refine (open_any A n c xs w h.sl h.byte).mono ?_
  rintro e w1 ⟨rfl, R1, B1⟩
  go_wp2_with fail
  refine (size_any _ _ _ R1 (by omega)).mono ?_
  rintro e w2 ⟨m, rfl, m0, m1, p2, _, hp2, R2, G2⟩
  have B2 := B1.grown G2 B1.size (by rintro _ ⟨rfl⟩; exact Nat.le_refl _)
  clear B1 R1 G2
  go_wp2_with fail
  refine (pick_any _ _ _ _ R2 (by omega) (by omega) (by omega)).mono ?_
  rintro e w3 ⟨q, rfl, q0, q1, R3, G3⟩
  have B3 := B2.grown G3 B2.size (by rintro _ ⟨rfl⟩; exact Nat.le_refl _)
  clear B2 R2 G3
  go_wp2_with fail
  refine (cursorS_any _ _ _).mono ?_
  rintro e w' ⟨rfl, rfl⟩
  have hs := cursorB_size q m
  generalize cursorB q m = s at hs ⊢
  go_wp2_with fail
  refine (odd_any _ _ _ _ R3 (by omega) (by omega) (by omega)).mono ?_
  rintro e w4 ⟨b, rfl, p4, _, hp4, R4, G4⟩
  have B4 := B3.grown G4 B3.size (by rintro _ ⟨rfl⟩; exact Nat.le_refl _)
  clear B3 R3 G4
  cases b
  · have hgl := R4.lt
    go_wp2_with fail
    have R4d : Rd w4.drew w.heap.size p4 := R4.drewN 1
    go_region_with (go_at_call 51; first
      | ((with_reducible refine (pick_any _ _ _ _ R4d (by omega) (by omega) (by omega)).mono ?_); rintro e w5 ⟨q5, rfl, r0, r1, R5, G5⟩; have hwr := IntWalk.i64_in (1 + q5) (by omega))
      | ((with_reducible refine (pick_any _ _ _ _ R5 (by omega) (by omega) (by omega)).mono ?_); rintro e w6 ⟨q6, rfl, s0, s1, R6, G6⟩; have hd0 : 0 ≤ q6 / 3 := by omega
         have hd1 : q6 / 3 < 2 := by omega
         have hd := Int.tdiv_eq_ediv_of_nonneg (b := 3) s0
         have hdw := IntWalk.i64_in (q6 / 3) (by omega)
         obtain ⟨y, hy, cy⟩ := lit_new2 w6 m (1 + q5) 3 hd0 hd1)
      | ((with_reducible refine (pick_any _ _ _ _ (R5.alloc _) (by omega) (by omega) (by omega)).mono ?_); rintro e w6 ⟨q6, rfl, s0, s1, R6, G6⟩; have hd0 : 0 ≤ q6 / 3 := by omega
         have hd1 : q6 / 3 < 2 := by omega
         have hd := Int.tdiv_eq_ediv_of_nonneg (b := 3) s0
         have hdw := IntWalk.i64_in (q6 / 3) (by omega)
         obtain ⟨y, hy, cy⟩ := lit_at (B := w5.heap.size) (L := [m, 1 + q5]) (alloc_new rfl) G6 (by have := R5.lt; omega) (show 0 ≤ q6 / 3 by omega) (by simp; omega)))
    all_goals
      have hy0 : 0 ≤ y ∧ y ≤ 41 := by simp at hy; omega
    · have B5 := B4.drew.grown G5 B4.size (by rintro _ ⟨rfl⟩; exact Nat.le_refl _)
      have B6 := (B5.alloc B5.size _).grown G6 (by have := B5.size; simp; omega) (by rintro _ ⟨rfl⟩; exact Nat.le_refl _)
      clear hy hwr hd hdw R4 R4d B4 R5 R6 B5
      go_wp2
      go_ret2
      exact ⟨s, y, rfl, by omega, hy0.1, hy0.2, B6⟩
    · have B5 := B4.drew.grown G5 B4.size (by rintro _ ⟨rfl⟩; exact Nat.le_refl _)
      have B6 := B5.grown G6 B5.size (by rintro _ ⟨rfl⟩; exact Nat.le_refl _)
      have B7 := B6.alloc B6.size (.cells #[.int .i64 m, .int .i64 (1 + q5)] 3)
      clear hy hwr hd hdw R4 R4d B4 R5 R6 B5 B6
      go_wp2
      go_ret2
      exact ⟨s, y, rfl, by omega, hy0.1, hy0.2, B7⟩
  · have hgl := R4.lt
    go_wp2_with fail
    refine (pick_any _ _ _ _ (R4.alloc _) (by omega) (by omega) (by omega)).mono ?_
    rintro e w5 ⟨q5, rfl, r0, r1, R5, G5⟩
    obtain ⟨x, hx, cx⟩ := strs_at (B := w4.heap.size) (L := [⟨#[]⟩, ⟨#[112]⟩, ⟨#[112, 52]⟩, ⟨#[112, 52, 45]⟩, ⟨#[112, 48, 52, 45, 106]⟩, ⟨#[113, 52, 45, 106]⟩, s ++ (⟨#[48]⟩ : ByteArray)]) (alloc_new rfl) G5 (by omega) r0 (by simpa using r1)
    have hsx : x.size ≤ 20 := by
      simp at hx
      rcases hx with rfl | rfl | rfl | rfl | rfl | rfl | rfl
      · show 0 ≤ 20; omega
      · show 1 ≤ 20; omega
      · show 2 ≤ 20; omega
      · show 3 ≤ 20; omega
      · show 5 ≤ 20; omega
      · show 4 ≤ 20; omega
      · rw [ByteArray.size_append]; show s.size + 1 ≤ 20; omega
    have B5 := (B4.alloc B4.size _).grown G5 (by simp; omega) (by rintro _ ⟨rfl⟩; exact Nat.le_refl _)
    clear hx R5 G5 R4 B4
    go_wp2_with fail
    go_ret2
    exact ⟨x, m, rfl, hsx, m0, m1, B5⟩
end Go.Proofs.Ytocaopabpjfhhaa
