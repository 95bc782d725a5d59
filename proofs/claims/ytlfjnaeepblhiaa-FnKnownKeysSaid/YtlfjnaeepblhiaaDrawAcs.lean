/- The contracts of the draws of lists of activities. -/
import Derived.Test.YtlfjnaeepblhiaaDrawAc
namespace Go.Proofs.Ytlfjnaeepblhiaa
open Go.RowKit
set_option linter.unusedVariables false
set_option linter.unusedSimpArgs false
theorem acOk_snoc {xs : List Ac} {x : Ac} (h : acOk xs) (ha : x.2.2.1.size ≤ 9223372036854775807) (hb : x.2.2.2.1.size ≤ 9223372036854775807) (hs : x.2.2.2.2.size ≤ 9223372036854775807) : acOk (xs ++ [x]) := by
  intro y hy
  rw [List.mem_append] at hy
  rcases hy with hy | hy
  · exact h y hy
  · simp at hy; subst hy; exact ⟨ha, hb, hs⟩
theorem turn_to {w w' : World} {g p p' K : Nat} (h : p' ≤ p + K) (R : Rd w' g p') (G : w.grownBy w' (some g)) : Turn w w' g 0 (p + K) := ⟨p', Nat.zero_le _, by rw [Nat.zero_add]; exact h, R, G⟩
def lenOf : Value → Nat
  | .slice _ n _ => n
  | _ => 0
set_option maxRecDepth 8000 in
set_option maxHeartbeats 2000000 in
theorem activities_any (g p : Nat) (n : Int) (w : World) (h : Rd w g p) (hp : p ≤ 1000) (h1 : 0 ≤ n) (h2 : n ≤ 1048576) :
    Calls Try.prog 43 #[.pointer (some ⟨g, 0, none⟩), .int .i64 n] w fun e w' => ∃ B k d xs, e = .returned (.slice B k d) ∧ w'.ownsRow w.heap.size 29 5 (.slice B k d) k (acs xs) ∧ acOk xs ∧ k ≤ 31 ∧ Turn w w' g 0 (p + 30000) := by
  have hgr := h.lt
  have O0 := own_empty w 29 5
  have R0 := h.alloc (.cells #[] 29)
  have G0 : w.grownBy (w.alloc (.cells #[] 29)) (some g) := World.grownBy_alloc _ _ _
  go_enter Try.func43, Try.ntmps43
  go_wp2_with fail
  refine (pick_any g p 9 _ R0 (by omega) (by omega) (by omega)).mono ?_
  rintro e' w1 ⟨q, rfl, q0, q1, R1, G1⟩
  have O1 : w1.ownsRow w.heap.size 29 5 (.slice (some ⟨w.heap.size, 0, none⟩) 0 0) 0 (acs []) := O0.kept G1 (.inr (by simp [Value.ownBlock]; omega))
  have hq : q ≤ 8 := by omega
  have G1 := G0.trans G1
  clear O0 R0 G0 h
  go_wp2
  go_loopw [5, 6] (fun v i wr => ∃ (k p' m d : Nat) (B : Option Addr) (xs : List Ac), k ≤ 8 ∧ i = .int .i64 k ∧ v = .slice B m d ∧ wr.ownsRow w.heap.size 29 5 (.slice B m d) m (acs xs) ∧ acOk xs ∧ m + k ≤ 8 ∧ Rd wr g p' ∧ 0 ≤ p' ∧ p' ≤ p + 1 + 530 * (8 - k) ∧ w.grownBy wr (some g)) (fun _ i _ => (intOf i).toNat)
  case atStart =>
    obtain ⟨k, rfl⟩ := Int.eq_ofNat_of_zero_le q0
    exact ⟨k, p + 1, 0, 0, _, [], by omega, rfl, rfl, O1, (by intro x hx; simp at hx), by omega, R1, by omega, by omega, G1⟩
  case round =>
    obtain ⟨k, p', m, d, B, xs, hk, rfl, rfl, O, hok, hm, R, l1, l2, G⟩ := hrel
    have HOK := hid hok
    clear hok O1 R1 G1
    by_cases hk0 : 0 < k
    · go_wp2_with fail
      refine (activity_any g p' 0 _ R (by omega) (by omega) (by omega)).mono ?_
      rintro e' w3 ⟨e, f, a, b, s, rfl, ha, hb, hs, p3, l5, l6, R3, G4⟩
      have O3 := O.kept G4 (by right; intro e; have := (O.lt g e).1; omega)
      have G5 := G.trans G4
      have hz5 := G5.size
      have HS := hid (acOk_snoc (x := (e, f, a, b, s)) HOK.out (show a.size ≤ 9223372036854775807 by omega) (show b.size ≤ 9223372036854775807 by omega) (show s.size ≤ 9223372036854775807 by omega))
      clear O R G G4 ha hb hs
      go_wp2_with (at_builtin; refine wpList_append_see _ rfl (.tmp 14) (.tmp 17) eltActivity rfl w.heap.size _ m (acs xs) rfl (O3.alloc _) (some ⟨w3.heap.size, 0, none⟩) 1 1 (acC (e, f, a, b, s)) rfl (see_new _ (acC (e, f, a, b, s)) _ _ rfl) (by simp) rfl (acC_one _) (by unfold maxLen; omega) (by omega) (Nat.le_trans hz5 (by simp)) ?_; intro v4 w4 O4 G6 _)
      rw [show acs xs ++ acC (e, f, a, b, s) = acs (xs ++ [(e, f, a, b, s)]) by simp [flat]] at O4
      have R4 := (R3.alloc (.cells (acC (e, f, a, b, s)).toArray 29)).grown G6 (fun q hq => by have := (O3.lt q hq).1; omega)
      have G7 : w.grownBy w4 (some g) := ⟨G6.os.trans G5.os, G6.tape.trans G5.tape, G6.output.trans G5.output, Nat.le_trans hz5 (Nat.le_trans (by simp) G6.size), fun q hq hne => (G6.block q (Nat.lt_of_lt_of_le hq (Nat.le_trans hz5 (by simp))) (fun e => by have := (O3.lt q e.symm).1; omega)).trans ((Below.heap_alloc w3 _ q (Nat.lt_of_lt_of_le hq hz5)).trans (G5.block q hq hne))⟩
      obtain ⟨B4, d4, rfl, _⟩ := own_form O4
      clear O3 R3 G5 G6
      go_wp2
      go_roundw
      case rel => exact ⟨k - 1, p3, m + 1, d4, B4, _, by omega, by go_num, rfl, O4, HS.out, by omega, R4, by omega, by omega, G7⟩
      case measure => simp [intOf]; omega
    · have hk1 : k = 0 := by omega
      have t0 : decide ((0 : Int) < (k : Int)) = false := by simp; omega
      have HK := hid hk1
      have l2' : p' ≤ p + 4241 := by omega
      have hm' : m ≤ 8 := by omega
      clear hk1 l2 hm
      go_wp2_with fail
      refine (odd_any g p' n _ R (by omega) h1 h2).mono ?_
      rintro e' w2 ⟨o, rfl, p2, l3, l4, R2, G2⟩
      have O2 := O.kept G2 (by right; intro e; have := (O.lt g e).1; omega)
      have G3 := G.trans G2
      have hz := G3.size
      clear O R G G2
      cases o with
      | false =>
        go_wp2_with fail
        refine (odd_any g p2 24 _ R2 (by omega) (by omega) (by omega)).mono ?_
        rintro e' w6 ⟨o, rfl, p6, l7, l8, R6, G6⟩
        have O6 := O2.kept G6 (by right; intro e; have := (O2.lt g e).1; omega)
        have G3 := G3.trans G6
        have hz := G3.size
        clear O2 R2 G6
        cases o with
        | false =>
          go_wp2_with fail
          go_ret
          exact ⟨B, m, d, xs, rfl, O6, HOK.out, by omega, turn_to (Nat.le_trans (show _ ≤ p + 21000 by omega) (Nat.add_le_add_left (by decide) p)) R6 G3⟩
        | true =>
          have hp6 : p6 ≤ p + 4243 := by omega
          have HX := hid HOK.out
          clear l1 l2' l3 l4 l7 l8 HOK
          go_wp2_with fail
          go_loopw [5] (fun v wr => ∃ (p' m d : Nat) (B : Option Addr) (xs : List Ac), v = .slice B m d ∧ wr.ownsRow w.heap.size 29 5 (.slice B m d) m (acs xs) ∧ Hid (acOk xs) ∧ m ≤ 31 ∧ Rd wr g p' ∧ p' ≤ p + 4243 + 530 * m ∧ w.grownBy wr (some g)) (fun v _ => 31 - lenOf v)
          case atStart => exact ⟨p6, m, d, B, xs, rfl, O6, HX, by omega, R6, by omega, G3⟩
          case round =>
            clear O6 R6 G3 HX hz
            obtain ⟨p', m, d, B, xs, rfl, O, HOK, hm, R, l2, G⟩ := hrel
            by_cases hm0 : m ≤ 30
            · go_wp2_with fail
              refine (activity_any g p' 0 _ R (by omega) (by omega) (by omega)).mono ?_
              rintro e' w3 ⟨e, f, a, b, s, rfl, ha, hb, hs, p3, l5, l6, R3, G4⟩
              have O3 := O.kept G4 (by right; intro e; have := (O.lt g e).1; omega)
              have G5 := G.trans G4
              have hz5 := G5.size
              have HS := hid (acOk_snoc (x := (e, f, a, b, s)) HOK.out (show a.size ≤ 9223372036854775807 by omega) (show b.size ≤ 9223372036854775807 by omega) (show s.size ≤ 9223372036854775807 by omega))
              clear O R G G4 ha hb hs
              go_wp2_with (at_builtin; refine wpList_append_see _ rfl (.tmp 32) (.tmp 35) eltActivity rfl w.heap.size _ m (acs xs) rfl (O3.alloc _) (some ⟨w3.heap.size, 0, none⟩) 1 1 (acC (e, f, a, b, s)) rfl (see_new _ (acC (e, f, a, b, s)) _ _ rfl) (by simp) rfl (acC_one _) (by unfold maxLen; omega) (by omega) (Nat.le_trans hz5 (by simp)) ?_; intro v4 w4 O4 G6 _)
              rw [show acs xs ++ acC (e, f, a, b, s) = acs (xs ++ [(e, f, a, b, s)]) by simp [flat]] at O4
              have R4 := (R3.alloc (.cells (acC (e, f, a, b, s)).toArray 29)).grown G6 (fun q hq => by have := (O3.lt q hq).1; omega)
              have G7 : w.grownBy w4 (some g) := ⟨G6.os.trans G5.os, G6.tape.trans G5.tape, G6.output.trans G5.output, Nat.le_trans hz5 (Nat.le_trans (by simp) G6.size), fun q hq hne => (G6.block q (Nat.lt_of_lt_of_le hq (Nat.le_trans hz5 (by simp))) (fun e => by have := (O3.lt q e.symm).1; omega)).trans ((Below.heap_alloc w3 _ q (Nat.lt_of_lt_of_le hq hz5)).trans (G5.block q hq hne))⟩
              obtain ⟨B4, d4, rfl, _⟩ := own_form O4
              clear O3 R3 G5 G6
              go_wp2
              go_roundw
              case rel => exact ⟨p3, m + 1, d4, B4, _, rfl, O4, HS, by omega, R4, by omega, G7⟩
              case measure => simp [lenOf]; omega
            · go_wp2_with fail
              go_ret
              exact ⟨B, m, d, xs, rfl, O, HOK.out, by omega, turn_to (Nat.le_trans (show _ ≤ p + 21000 by omega) (Nat.add_le_add_left (by decide) p)) R G⟩
      | true =>
        go_wp2_with fail
        refine (activity_any g p2 1 _ R2 (by omega) (by omega) (by omega)).mono ?_
        rintro e' w3 ⟨e, f, a, b, s, rfl, ha, hb, hs, p3, l5, l6, R3, G4⟩
        have O3 := O2.kept G4 (by right; intro e; have := (O2.lt g e).1; omega)
        have G5 := G3.trans G4
        have hz5 := G5.size
        have HS := hid (acOk_snoc (x := (e, f, a, b, s)) HOK.out (show a.size ≤ 9223372036854775807 by omega) (show b.size ≤ 9223372036854775807 by omega) (show s.size ≤ 9223372036854775807 by omega))
        clear O2 R2 G3 G4 ha hb hs
        go_wp2_with (at_builtin; refine wpList_append_see _ rfl (.tmp 22) (.tmp 25) eltActivity rfl w.heap.size _ m (acs xs) rfl (O3.alloc _) (some ⟨w3.heap.size, 0, none⟩) 1 1 (acC (e, f, a, b, s)) rfl (see_new _ (acC (e, f, a, b, s)) _ _ rfl) (by simp) rfl (acC_one _) (by unfold maxLen; omega) (by omega) (Nat.le_trans hz5 (by simp)) ?_; intro v4 w4 O4 G6 _)
        rw [show acs xs ++ acC (e, f, a, b, s) = acs (xs ++ [(e, f, a, b, s)]) by simp [flat]] at O4
        have R4 := (R3.alloc (.cells (acC (e, f, a, b, s)).toArray 29)).grown G6 (fun q hq => by have := (O3.lt q hq).1; omega)
        have G7 : w.grownBy w4 (some g) := ⟨G6.os.trans G5.os, G6.tape.trans G5.tape, G6.output.trans G5.output, Nat.le_trans hz5 (Nat.le_trans (by simp) G6.size), fun q hq hne => (G6.block q (Nat.lt_of_lt_of_le hq (Nat.le_trans hz5 (by simp))) (fun e => by have := (O3.lt q e.symm).1; omega)).trans ((Below.heap_alloc w3 _ q (Nat.lt_of_lt_of_le hq hz5)).trans (G5.block q hq hne))⟩
        obtain ⟨B4, d4, rfl, _⟩ := own_form O4
        clear O3 R3 G5 G6
        go_wp2
        go_ret
        exact ⟨B4, m + 1, d4, _, rfl, O4, HS.out, by omega, turn_to (Nat.le_trans (show _ ≤ p + 21000 by omega) (Nat.add_le_add_left (by decide) p)) R4 G7⟩
end Go.Proofs.Ytlfjnaeepblhiaa
