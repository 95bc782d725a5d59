/- The contracts of the draws of numbers, an entry and a page's size. -/
import Derived.Test.YtocaopabpjfhhaaDraw
import Derived.Test.YtocaopabpjfhhaaPage
namespace Go.Proofs.Ytocaopabpjfhhaa
open Go.RowKit
set_option linter.unusedVariables false

theorem own_turn {w w' : World} {base g : Nat} {e : TypeId} {size n : Nat} {v : Value} {vs : List Value} (h : w.ownsRow base e size v n vs) (hg : g < base) (G : w.grownBy w' (some g)) : w'.ownsRow base e size v n vs := by
  refine h.kept G ?_
  cases hv : v.ownBlock with
  | none => exact .inl rfl
  | some k => exact .inr (fun e => by injection e with e; have := (h.lt k hv).1; omega)
theorem see_one (w : World) (x : Value) (t : TypeId) : See (w.alloc (.cells #[x] t)) (some ⟨w.heap.size, 0, none⟩) [x] := .inr ⟨_, rfl, cell_one_new w x t⟩
/-- Behind a write into a row of the call's own: the reader stands, and it alone and new blocks have turned. -/
theorem Rd.own {w w' : World} {g p base : Nat} {v : Value} {e : TypeId} {size n : Nat} {vs : List Value} (h : Rd w g p) (o : w.ownsRow base e size v n vs) (hg : g < base) (G : w.grownBy w' v.ownBlock) : Rd w' g p :=
  h.grown G (fun k hk => by have := (o.lt k hk).1; omega)
theorem grown_own {w0 w w' : World} {g base : Nat} {v : Value} {e : TypeId} {size n : Nat} {vs : List Value} (h : w0.grownBy w (some g)) (o : w.ownsRow base e size v n vs) (hb : w0.heap.size ≤ base) (G : w.grownBy w' v.ownBlock) : w0.grownBy w' (some g) :=
  ⟨G.os.trans h.os, G.tape.trans h.tape, G.output.trans h.output, Nat.le_trans h.size G.size, fun k hk hne => (G.block k (Nat.lt_of_lt_of_le hk h.size) (fun e => by have := (o.lt k e.symm).1; omega)).trans (h.block k hk hne)⟩
theorem numbers_any (g p : Nat) (w : World) (h : Rd w g p) (hp : p ≤ 80000) :
    Calls Try.prog 54 #[.pointer (some ⟨g, 0, none⟩)] w fun e w' => ∃ (A : Option Addr) (n c : Nat) (xs : List Int), e = .returned (.slice A n c) ∧ w'.ownsRow w.heap.size 3 1 (.slice A n c) n (ints xs) ∧ n ≤ 41 ∧ Turn w w' g p 20 := by
  obtain ⟨i0, hi, hz0, hz1, hz2⟩ := info_parts (show (Try.prog.info? 3).map (fun i => (i.zero, i.size, i.bytes)) = some (some (.int .i64 0), 1, 8) by kernel_rfl)
  have hgl := h.lt
  go_enter Try.func54, Try.ntmps54
  go_wp2_with fail
  refine (pick_any _ _ _ _ (h.alloc _) (by omega) (by omega) (by omega)).mono ?_
  rintro e w1 ⟨q, rfl, q0, q1, R1, G1⟩
  obtain ⟨k0, rfl⟩ := Int.eq_ofNat_of_zero_le q0
  have O1 := (own_empty w 3 1).kept G1 (.inr (by simp [Value.ownBlock]; omega))
  have G := hid ((World.grownBy_alloc w (.cells #[] 3) (some g)).trans G1)
  go_wp2_with fail
  go_loopw [3, 4] (fun v k wr => ∃ (r : Nat) (xs : List Int) (p' : Nat), xs.length + r ≤ 12 ∧ k = .int .i64 r ∧ wr.ownsRow w.heap.size 3 1 v xs.length (ints xs) ∧ Rd wr g p' ∧ p ≤ p' ∧ p' ≤ p + 1 + xs.length ∧ Hid (w.grownBy wr (some g))) (fun _ k _ => (intOf k).toNat)
  case atStart => exact ⟨k0, [], p + 1, by simp; omega, rfl, O1, R1, by omega, by simp, G⟩
  case round =>
    obtain ⟨r, xs, p', hr, rfl, own, R, pa, pb, G⟩ := hrel
    clear O1 R1 G1 h
    obtain ⟨A, c, rfl, _, hcm, hA⟩ := own_form own
    unfold maxLen at hcm
    by_cases hlt : 0 < r
    · go_wp2_with fail
      refine (pick_any _ _ _ _ R (by omega) (by omega) (by omega)).mono ?_
      rintro e w2 ⟨q, rfl, s0, s1, R2, G2⟩
      have own2 := (own_turn own hgl G2).alloc (.cells #[.int .i64 q] 3)
      have R3 := R2.alloc (.cells #[.int .i64 q] 3)
      have G3 := hid ((G.out.trans G2).trans (World.grownBy_alloc _ (.cells #[.int .i64 q] 3) _))
      have hz2' : w.heap.size ≤ w2.heap.size := (G.out.trans G2).size
      clear own R G2 R2 G hA
      go_wp2_with (at_builtin; refine wpList_append_see _ rfl _ _ eltInt rfl w.heap.size _ xs.length (ints xs) rfl own2 _ 1 1 [.int .i64 q] rfl (see_one _ _ _) (fun e => by cases e) rfl (ints_oneCell _ [q]) (by unfold maxLen; omega) (by omega) (by simp; omega) ?_; intro v3 w3 own3 g3 hat)
      have hl : (xs ++ [q]).length = xs.length + 1 := by simp
      have own4 : w3.ownsRow w.heap.size 3 1 v3 (xs ++ [q]).length (ints (xs ++ [q])) := by rw [hl]; simpa [ints] using own3
      have R4 := R3.own own2 hgl g3
      have G4 := hid (grown_own G3.out own2 (Nat.le_refl _) g3)
      have X := hid (And.intro own4 (And.intro R4 (And.intro G4 hl)))
      clear own2 R3 G3 own3 g3 hat hl own4 R4 G4
      go_wp2
      go_roundw
      case rel => exact ⟨r - 1, xs ++ [q], p' + 1, by rw [X.out.2.2.2]; omega, by go_num, X.out.1, X.out.2.1, by omega, by rw [X.out.2.2.2]; omega, X.out.2.2.1⟩
      case measure => simp [intOf]; omega
    · obtain rfl : r = 0 := by omega
      go_wp2_with fail
      refine (odd_any _ _ _ _ R (by omega) (by omega) (by omega)).mono ?_
      rintro e w2 ⟨b, rfl, p2, pc, pd, R2, G2⟩
      have own2 := own_turn own hgl G2
      have G3 := G.out.trans G2
      clear own R G G2 hA
      cases b
      · have X := hid (And.intro own2 (And.intro R2 G3))
        clear own2 R2 G3
        go_wp2_with fail
        go_ret
        exact ⟨A, _, c, xs, rfl, X.out.1, by omega, p2, by omega, by omega, X.out.2.1, X.out.2.2⟩
      · go_wp2_with fail
        refine (pick_any _ _ _ _ R2 (by omega) (by omega) (by omega)).mono ?_
        rintro e w4 ⟨q, rfl, s0, s1, R4, G4⟩
        obtain ⟨t, rfl⟩ := Int.eq_ofNat_of_zero_le s0
        have G5 := G3.trans G4
        have hz4 : w.heap.size ≤ w4.heap.size := G5.size
        clear own2 R2 G3 G4
        go_wp2_with (at_make; refine wpList_make_full _ rfl _ _ 28 rfl w.heap.size 3 i0 (.int .i64 0) 1 Try.underlying28 hi hz0 hz1 .i64 .i64 (40 + (t : Int)) (40 + (t : Int)) (40 + t) rfl rfl (by omega) (by omega) (by rw [hz2]; omega) (by unfold maxLen; omega) hz4 ?_; intro w5 own5 g5)
        have X : w5.ownsRow w.heap.size 3 1 (.slice (some ⟨w4.heap.size, 0, none⟩) (40 + t) (40 + t)) (40 + t) (ints (List.replicate (40 + t) 0)) ∧ Rd w5 g (p2 + 1) ∧ w.grownBy w5 (some g) := by
          refine ⟨?_, R4.grown g5 (fun k hk => by cases hk), G5.trans ⟨g5.os, g5.tape, g5.output, g5.size, fun k hk _ => g5.block k hk (by simp)⟩⟩
          have e1 : (madeCells (Value.int .i64 0).cells ((40 + t) * 1)).toList = ints (List.replicate (40 + t) 0) := by
            rw [Nat.mul_one]; exact (toList_madeCells_one _ _).trans (by simp [ints])
          rw [← e1]; exact own5
        have X := hid X
        clear own5 g5 R4 G5
        go_wp2
        go_ret
        exact ⟨_, 40 + t, _, _, rfl, X.out.1, by omega, p2 + 1, by omega, by omega, X.out.2.1, X.out.2.2⟩

theorem drawPage_any (A : Option Addr) (n c : Nat) (xs : List Int) (w : World) (h : Row .u8 w A n c xs) :
    Calls Try.prog 30 #[.slice A n c] w fun e w' => ∃ (B : Option Addr) (k d : Nat) (f m : Int) (ys : List Int), e = .returned (.tuple #[.slice B k d, .int .i64 f, .int .i64 m]) ∧ w'.ownsRow w.heap.size 3 1 (.slice B k d) k (ints ys) ∧ k ≤ 41 ∧ -14 ≤ f ∧ f ≤ 14 ∧ 0 ≤ m ∧ m ≤ 41 ∧ Below w.heap.size w w' := by
  go_enter Try.func30, Try.ntmps30
  go_wp2_with fail
  refine (open_any A n c xs w h.sl h.byte).mono ?_
  rintro e w1 ⟨rfl, R1, B1⟩
  have hgl := R1.lt
  go_wp2_with fail
  refine (numbers_any _ _ _ R1 (by omega)).mono ?_
  rintro e w2 ⟨B, k, d, ys, rfl, own, hk, p2, _, hp2, R2, G2⟩
  have B2 := B1.grown G2 B1.size (by rintro _ ⟨rfl⟩; exact Nat.le_refl _)
  have hb1 := B1.size
  clear B1 R1 G2
  go_wp2_with fail
  refine (pick_any _ _ _ _ R2 (by omega) (by omega) (by omega)).mono ?_
  rintro e w3 ⟨q, rfl, q0, q1, R3, G3⟩
  have own := own_turn own hgl G3
  have B3 := B2.grown G3 B2.size (by rintro _ ⟨rfl⟩; exact Nat.le_refl _)
  clear B2 R2 G3
  go_wp2_with fail
  refine (pick_any _ _ _ _ R3 (by omega) (by omega) (by omega)).mono ?_
  rintro e w4 ⟨t, rfl, t0, t1, R4, G4⟩
  have own := own_turn own hgl G4
  have B4 := B3.grown G4 B3.size (by rintro _ ⟨rfl⟩; exact Nat.le_refl _)
  clear B3 R3 G4
  go_wp2_with fail
  refine (size_any _ _ _ R4 (by omega)).mono ?_
  rintro e w5 ⟨m, rfl, m0, m1, p5, _, hp5, R5, G5⟩
  have own5 := own_lower (own_turn own hgl G5) hb1
  have B5 := B4.grown G5 B4.size (by rintro _ ⟨rfl⟩; exact Nat.le_refl _)
  clear own B4 R4 R5 G5
  go_wp2_with fail
  go_ret3
  exact ⟨B, k, d, q - t / 13 * 14, m, ys, rfl, own5, hk, by omega, by omega, m0, m1, B5⟩
theorem drawPages_any (A : Option Addr) (n c : Nat) (xs : List Int) (w : World) (h : Row .u8 w A n c xs) :
    Calls Try.prog 44 #[.slice A n c] w fun e w' => ∃ (B : Option Addr) (k d : Nat) (m : Int) (ys : List Int), e = .returned (.tuple #[.slice B k d, .int .i64 m]) ∧ w'.ownsRow w.heap.size 3 1 (.slice B k d) k (ints ys) ∧ k ≤ 41 ∧ 0 ≤ m ∧ m ≤ 41 ∧ Below w.heap.size w w' := by
  go_enter Try.func44, Try.ntmps44
  go_wp2_with fail
  refine (open_any A n c xs w h.sl h.byte).mono ?_
  rintro e w1 ⟨rfl, R1, B1⟩
  have hgl := R1.lt
  go_wp2_with fail
  refine (numbers_any _ _ _ R1 (by omega)).mono ?_
  rintro e w2 ⟨B, k, d, ys, rfl, own, hk, p2, _, hp2, R2, G2⟩
  have B2 := B1.grown G2 B1.size (by rintro _ ⟨rfl⟩; exact Nat.le_refl _)
  have hb1 := B1.size
  clear B1 R1 G2
  go_wp2_with fail
  refine (size_any _ _ _ R2 (by omega)).mono ?_
  rintro e w3 ⟨m, rfl, m0, m1, p3, _, hp3, R3, G3⟩
  have own3 := own_lower (own_turn own hgl G3) hb1
  have B3 := B2.grown G3 B2.size (by rintro _ ⟨rfl⟩; exact Nat.le_refl _)
  clear own B2 R2 R3 G3
  go_wp2_with fail
  go_ret2
  exact ⟨B, k, d, m, ys, rfl, own3, hk, m0, m1, B3⟩
end Go.Proofs.Ytocaopabpjfhhaa
