/- The contracts of the draws of rotations. -/
import Derived.Test.YtcpepjnmjiffcaaDrawSign
import Derived.Test.YtcpepjnmjiffcaaAddTurn
import Derived.Test.YtcpepjnmjiffcaaGhost
namespace Go.Proofs.Ytcpepjnmjiffcaa
open Go.RowKit
set_option linter.unusedVariables false
set_option linter.unusedSimpArgs false
theorem pos_sum {p p2 p5 Q a b c : Nat} (l5 : p2 ≤ p + a) (hQ : Q ≤ p2 + 1) (hp5 : p5 ≤ Q + b) (h : a + 1 + b ≤ c) : p5 ≤ 0 + (p + c) := by omega
theorem Turn.mk' {w w' : World} {g p p' k : Nat} (h1 : p ≤ p') (h2 : p' ≤ p + k) (R : Rd w' g p') (G : w.grownBy w' (some g)) : Turn w w' g p k := ⟨p', h1, h2, R, G⟩
set_option maxHeartbeats 2000000 in
theorem turns_any (g p : Nat) (n : Int) (w : World) (h : Rd w g p) (hp : p ≤ 70000) (h1 : 0 ≤ n) (h2 : n ≤ 1048576) :
    Calls Try.prog 43 #[.pointer (some ⟨g, 0, none⟩), .int .i64 n] w fun e w' => ∃ B k d xs, e = .returned (.slice B k d) ∧ w'.ownsRow w.heap.size 39 4 (.slice B k d) k (tns xs) ∧ k ≤ 8 ∧ Turn w w' g 0 (p + 1000) := by
  have hgr := h.lt
  have O0 := own_empty w 39 4
  have R0 := h.alloc (.cells #[] 39)
  have G0 : w.grownBy (w.alloc (.cells #[] 39)) (some g) := World.grownBy_alloc _ _ _
  go_enter Try.func43, Try.ntmps43
  go_wp2_with fail
  refine (pick_any g p 20 _ R0 (by omega) (by omega) (by omega)).mono ?_
  rintro e' w1 ⟨dy, rfl, y0, y1, R1, G1⟩
  have O1 : w1.ownsRow w.heap.size 39 4 (.slice (some ⟨w.heap.size, 0, none⟩) 0 0) 0 (tns []) := O0.kept G1 (.inr (by simp [Value.ownBlock]; omega))
  have G1 := G0.trans G1
  clear O0 R0 G0 h
  go_wp2_with fail
  refine (pick_any g (p + 1) 5 _ R1 (by omega) (by omega) (by omega)).mono ?_
  rintro e' w2 ⟨q, rfl, q0, q1, R2, G2⟩
  have O2 : w2.ownsRow w.heap.size 39 4 (.slice (some ⟨w.heap.size, 0, none⟩) 0 0) 0 (tns []) := O1.kept G2 (.inr (by simp [Value.ownBlock]; omega))
  have G2 := G1.trans G2
  have hq : q ≤ 4 := by omega
  clear O1 R1 G1
  go_wp2
  go_loopw [5, 6, 7] (fun v dv i wr => ∃ (k p' m d : Nat) (y : Int) (B : Option Addr) (xs : List Tn), k ≤ 4 ∧ i = .int .i64 k ∧ dv = .int .i64 y ∧ 0 ≤ y ∧ y ≤ 20 + 60 * (4 - k) ∧ v = .slice B m d ∧ wr.ownsRow w.heap.size 39 4 (.slice B m d) m (tns xs) ∧ m ≤ 7 ∧ Rd wr g p' ∧ 0 ≤ p' ∧ p' ≤ p + 2 + 50 * (4 - k) ∧ w.grownBy wr (some g)) (fun _ _ i _ => (intOf i).toNat)
  case atStart =>
    obtain ⟨k, rfl⟩ := Int.eq_ofNat_of_zero_le q0
    exact ⟨k, p + 1 + 1, 0, 0, dy, _, [], by omega, rfl, rfl, by omega, by omega, rfl, O2, by omega, R2, by omega, by omega, G2⟩
  case round =>
    obtain ⟨k, p', m, d, y, B, xs, hk, rfl, rfl, hy0, hy1, rfl, O, hm, R, l1, l2, G⟩ := hrel
    clear O2 R2 G2
    by_cases hk0 : 0 < k
    · go_wp2_with fail
      refine (drawSign_any g p' 0 _ R (by omega) (by omega) (by omega)).mono ?_
      rintro e' w3 ⟨a, b, e, rfl, p3, l3, l4, R3, G3⟩
      have O3 := O.kept G3 (by right; intro e; have := (O.lt g e).1; omega)
      have G3 := G.trans G3
      have hz := G3.size
      clear O R G
      go_wp2_with fail
      refine (addTurnS_any _ _ _ xs y a b e _ (own_sl O3)).mono ?_
      rintro e' w4 ⟨B4, k4, d4, rfl, O4, b4⟩
      have hk4 : k4 ≤ 7 := by have h1 := own_count O4 tnC_len (by omega); have h2 := addV_len xs (y, a, b, e); omega
      have O4 := own_lower O4 hz
      have R4 := R3.below b4
      have G4 := G3.trans (grown_of_below b4 (some g))
      clear O3 R3 G3 b4 hz
      go_wp2_with fail
      refine (pick_any g p3 50 _ R4 (by omega) (by omega) (by omega)).mono ?_
      rintro e' w5 ⟨r, rfl, r0, r1, R5, G5⟩
      have O5 := O4.kept G5 (by right; intro e; have := (O4.lt g e).1; omega)
      have G5 := G4.trans G5
      have hw1 := IntWalk.i64_in (y + 1) ⟨by omega, by omega⟩
      have hw2 := IntWalk.i64_in (y + 1 + r) ⟨by omega, by omega⟩
      clear O4 R4 G4
      go_wp2_with fail
      go_roundw
      case rel => exact ⟨k - 1, p3 + 1, k4, d4, y + 1 + r, B4, _, by omega, by go_num, rfl, by omega, by omega, rfl, O5, hk4, R5, by omega, by omega, G5⟩
      case measure => simp [intOf]; omega
    · have hk1 : k = 0 := by omega
      have t0 : decide ((0 : Int) < (k : Int)) = false := by simp; omega
      have HK := hid hk1
      clear hk1
      go_wp2_with fail
      refine (odd_any g p' n _ R (by omega) h1 h2).mono ?_
      rintro e' w2 ⟨o, rfl, p2, l3, l4, R2, G2⟩
      have O2 := O.kept G2 (by right; intro e; have := (O.lt g e).1; omega)
      have G3 := G.trans G2
      have hz := G3.size
      clear O R G G2
      cases o with
      | false =>
        go_wp2_with fail
        go_ret
        exact ⟨B, m, d, xs, rfl, O2, by omega, Turn.mk' (by omega) (by omega) R2 G3⟩
      | true =>
        by_cases hm0 : 0 < m
        · go_wp2_with fail
          refine (pick_any g p2 2 _ R2 (by omega) (by omega) (by omega)).mono ?_
          rintro e' w3 ⟨r, rfl, r0, r1, R3, G4⟩
          have O3 := O2.kept G4 (by right; intro e; have := (O2.lt g e).1; omega)
          have G5 := G3.trans G4
          have hz5 := G5.size
          clear O2 R2 G3 G4
          by_cases hr : r = 0
          · have t1 : (r == 0) = true := by simpa using hr
            clear hr
            obtain ⟨ad, dd, a, b, e, hA, hab, c0, c1, c2, c3⟩ := (own_sl O3).tn (j := 0) hm0
            subst hA
            rw [Nat.zero_mul, addr_zero] at c0
            have c1 : w3.cell? ⟨ad.block, ad.off + 1, none⟩ = some (.int .i64 a) := by rw [Nat.zero_mul, addr_zero] at c1; exact c1
            have c2 : w3.cell? ⟨ad.block, ad.off + 2, none⟩ = some (.int .i64 b) := by rw [Nat.zero_mul, addr_zero] at c2; exact c2
            have c3 : w3.cell? ⟨ad.block, ad.off + 3, none⟩ = some (.int .i64 e) := by rw [Nat.zero_mul, addr_zero] at c3; exact c3
            clear hab
            go_wp2_with (at_builtin; refine wpList_append_see _ rfl (.tmp 45) (.tmp 49) eltTurn rfl w.heap.size _ m (tns xs) rfl (O3.alloc _) (some ⟨w3.heap.size, 0, none⟩) 1 1 (tnC (dd, a, b, e)) rfl (see_new _ (tnC (dd, a, b, e)) _ _ rfl) (by simp) rfl (tnC_one _) (by unfold maxLen; omega) (by omega) (Nat.le_trans hz5 (by simp)) ?_; intro v4 w4 O4 G6 _)
            rw [show tns xs ++ tnC (dd, a, b, e) = tns (xs ++ [(dd, a, b, e)]) by simp [flat]] at O4
            have R4 := (R3.alloc (.cells (tnC (dd, a, b, e)).toArray 39)).grown G6 (fun q hq => by have := (O3.lt q hq).1; omega)
            have G7 : w.grownBy w4 (some g) := ⟨G6.os.trans G5.os, G6.tape.trans G5.tape, G6.output.trans G5.output, Nat.le_trans hz5 (Nat.le_trans (by simp) G6.size), fun q hq hne => (G6.block q (Nat.lt_of_lt_of_le hq (Nat.le_trans hz5 (by simp))) (fun e => by have := (O3.lt q e.symm).1; omega)).trans ((Below.heap_alloc w3 _ q (Nat.lt_of_lt_of_le hq hz5)).trans (G5.block q hq hne))⟩
            obtain ⟨B4, d4, rfl, _⟩ := own_form O4
            clear O3 R3 G5 G6 c0 c1 c2 c3
            go_wp2
            go_ret
            exact ⟨B4, m + 1, d4, _, rfl, O4, by omega, Turn.mk' (by omega) (by omega) R4 G7⟩
          · have t1 : (r == 0) = false := by simpa using hr
            clear hr
            go_wp2_with fail
            obtain ⟨Q, hQ, R3⟩ : ∃ Q, Q ≤ p2 + 1 ∧ Rd w3 g Q := ⟨_, by omega, R3⟩
            have next : ∀ k u, (fun k u => ∃ p', p' ≤ Q + 41 * k ∧ Rd u g p' ∧ w.grownBy u (some g)) k u → (fun k u => ∃ p', p' ≤ Q + 41 * k ∧ Rd u g p' ∧ w.grownBy u (some g)) (k + 1) u := fun k u ⟨p', hp, h⟩ => ⟨p', by omega, h⟩
            refine wp_region_ghost (d := 10) (G := fun u => u.ownsRow w.heap.size 39 4 (.slice B m d) m (tns xs)) (W := fun k u => ∃ p', p' ≤ Q + 41 * k ∧ Rd u g p' ∧ w.grownBy u (some g)) (dead := fun i j => (i == 10 && j == 1) || (i == 10 && j == 4) || (i == 10 && j == 9) || (i == 11 && j == 10))
              (Tr := fun i a b => match i with | 1 => a.grownBy b (some g) | 3 => a.grownBy b (some g) | 7 => a.grownBy b (some g) | 9 => a.grownBy b (some g) | 10 => True | _ => a = b)
              (F := fun i v w' => match i with
                | 0 => v = .slice B m d
                | 1 => IsLit g g 3 (IsI (-1) 1000000001) 3 v w'
                | 2 => v = .pointer (some ⟨g, 0, none⟩)
                | 3 => IsI 0 2 v
                | 4 => IsAt g g (IsI (-1) 1000000001) v w'
                | 5 => IsI (-1) 1000000001 v
                | 6 => v = .pointer (some ⟨g, 0, none⟩)
                | 7 => IsKey v
                | 8 => ∃ x : Tn, v = tnA x.1 x.2.1 x.2.2.1 x.2.2.2
                | 9 => ∃ (q : Nat) (x : Tn), v = .slice (some ⟨q, 0, none⟩) 1 1 ∧ w.heap.size ≤ q ∧ w'.heap[q]? = some (.cells (tnC x).toArray 39 (0, 0))
                | 10 => ∃ x : Tn, w'.ownsRow w.heap.size 39 4 v (m + 1) (tns (xs ++ [x]))
                | 11 => ∃ x : Tn, w'.ownsRow w.heap.size 39 4 v (m + 1) (tns (xs ++ [x]))
                | _ => True) (by kernel_rfl) (by kernel_rfl) (by kernel_rfl) ?_ O3 ?_ ?_ ?_ ?_
            · exact ⟨Q, by omega, R3.drewN 1, ⟨G5.os, G5.tape, G5.output, G5.size, G5.block⟩⟩
            · intro i kk a b hi hne hW hT hF
              match i with
              | 0 => have hT' : a = b := hT; subst hT'; exact hF
              | 1 => exact World.ownsRow.kept hF hT (by right; intro e; have := (World.ownsRow.lt hF g e).1; omega)
              | 2 => have hT' : a = b := hT; subst hT'; exact hF
              | 3 => exact World.ownsRow.kept hF hT (by right; intro e; have := (World.ownsRow.lt hF g e).1; omega)
              | 4 => have hT' : a = b := hT; subst hT'; exact hF
              | 5 => have hT' : a = b := hT; subst hT'; exact hF
              | 6 => have hT' : a = b := hT; subst hT'; exact hF
              | 7 => exact World.ownsRow.kept hF hT (by right; intro e; have := (World.ownsRow.lt hF g e).1; omega)
              | 8 => have hT' : a = b := hT; subst hT'; exact hF
              | 9 => exact World.ownsRow.kept hF hT (by right; intro e; have := (World.ownsRow.lt hF g e).1; omega)
              | 10 => exact absurd rfl hne
              | 11 => have hT' : a = b := hT; subst hT'; exact hF
              | _ + 12 => simp at hi; omega
            · intro i j kk a b v hi hj hne hdd haa hW hT hF
              match i, j with
              | _, 0 => exact hF
              | 0, 1 => have hT' : a = b := hT; subst hT'; exact hF
              | 1, 1 => exact absurd rfl hne
              | 2, 1 => have hT' : a = b := hT; subst hT'; exact hF
              | 3, 1 => exact IsLit.kept hF (Kept.of hT)
              | 4, 1 => have hT' : a = b := hT; subst hT'; exact hF
              | 5, 1 => have hT' : a = b := hT; subst hT'; exact hF
              | 6, 1 => have hT' : a = b := hT; subst hT'; exact hF
              | 7, 1 => exact IsLit.kept hF (Kept.of hT)
              | 8, 1 => have hT' : a = b := hT; subst hT'; exact hF
              | 9, 1 => exact IsLit.kept hF (Kept.of hT)
              | 10, 1 => exact absurd hdd (by decide)
              | 11, 1 => have hT' : a = b := hT; subst hT'; exact hF
              | _ + 12, 1 => simp at hi; omega
              | _, 2 => exact hF
              | _, 3 => exact hF
              | 0, 4 => have hT' : a = b := hT; subst hT'; exact hF
              | 1, 4 => exact absurd (haa.symm.trans (show ancB _ _ _ _ = true by kernel_rfl)) (by decide)
              | 2, 4 => have hT' : a = b := hT; subst hT'; exact hF
              | 3, 4 => exact absurd (haa.symm.trans (show ancB _ _ _ _ = true by kernel_rfl)) (by decide)
              | 4, 4 => exact absurd rfl hne
              | 5, 4 => have hT' : a = b := hT; subst hT'; exact hF
              | 6, 4 => have hT' : a = b := hT; subst hT'; exact hF
              | 7, 4 => exact IsAt.kept hF (Kept.of hT)
              | 8, 4 => have hT' : a = b := hT; subst hT'; exact hF
              | 9, 4 => exact IsAt.kept hF (Kept.of hT)
              | 10, 4 => exact absurd hdd (by decide)
              | 11, 4 => have hT' : a = b := hT; subst hT'; exact hF
              | _ + 12, 4 => simp at hi; omega
              | _, 5 => exact hF
              | _, 6 => exact hF
              | _, 7 => exact hF
              | _, 8 => exact hF
              | 0, 9 => have hT' : a = b := hT; subst hT'; exact hF
              | 1, 9 => exact absurd (haa.symm.trans (show ancB _ _ _ _ = true by kernel_rfl)) (by decide)
              | 2, 9 => have hT' : a = b := hT; subst hT'; exact hF
              | 3, 9 => exact absurd (haa.symm.trans (show ancB _ _ _ _ = true by kernel_rfl)) (by decide)
              | 4, 9 => have hT' : a = b := hT; subst hT'; exact hF
              | 5, 9 => have hT' : a = b := hT; subst hT'; exact hF
              | 6, 9 => have hT' : a = b := hT; subst hT'; exact hF
              | 7, 9 => exact absurd (haa.symm.trans (show ancB _ _ _ _ = true by kernel_rfl)) (by decide)
              | 8, 9 => have hT' : a = b := hT; subst hT'; exact hF
              | 9, 9 => exact absurd rfl hne
              | 10, 9 => exact absurd hdd (by decide)
              | 11, 9 => have hT' : a = b := hT; subst hT'; exact hF
              | _ + 12, 9 => simp at hi; omega
              | 0, 10 => have hT' : a = b := hT; subst hT'; exact hF
              | 1, 10 => exact absurd (haa.symm.trans (show ancB _ _ _ _ = true by kernel_rfl)) (by decide)
              | 2, 10 => have hT' : a = b := hT; subst hT'; exact hF
              | 3, 10 => exact absurd (haa.symm.trans (show ancB _ _ _ _ = true by kernel_rfl)) (by decide)
              | 4, 10 => have hT' : a = b := hT; subst hT'; exact hF
              | 5, 10 => have hT' : a = b := hT; subst hT'; exact hF
              | 6, 10 => have hT' : a = b := hT; subst hT'; exact hF
              | 7, 10 => exact absurd (haa.symm.trans (show ancB _ _ _ _ = true by kernel_rfl)) (by decide)
              | 8, 10 => have hT' : a = b := hT; subst hT'; exact hF
              | 9, 10 => exact absurd (haa.symm.trans (show ancB _ _ _ _ = true by kernel_rfl)) (by decide)
              | 10, 10 => exact absurd rfl hne
              | 11, 10 => exact absurd hdd (by decide)
              | _ + 12, 10 => simp at hi; omega
              | 0, 11 => have hT' : a = b := hT; subst hT'; exact hF
              | 1, 11 => exact absurd (haa.symm.trans (show ancB _ _ _ _ = true by kernel_rfl)) (by decide)
              | 2, 11 => have hT' : a = b := hT; subst hT'; exact hF
              | 3, 11 => exact absurd (haa.symm.trans (show ancB _ _ _ _ = true by kernel_rfl)) (by decide)
              | 4, 11 => have hT' : a = b := hT; subst hT'; exact hF
              | 5, 11 => have hT' : a = b := hT; subst hT'; exact hF
              | 6, 11 => have hT' : a = b := hT; subst hT'; exact hF
              | 7, 11 => exact absurd (haa.symm.trans (show ancB _ _ _ _ = true by kernel_rfl)) (by decide)
              | 8, 11 => have hT' : a = b := hT; subst hT'; exact hF
              | 9, 11 => exact absurd (haa.symm.trans (show ancB _ _ _ _ = true by kernel_rfl)) (by decide)
              | 10, 11 => exact absurd (haa.symm.trans (show ancB _ _ _ _ = true by kernel_rfl)) (by decide)
              | 11, 11 => exact absurd rfl hne
              | _ + 12, 11 => simp at hi; omega
              | _, _ + 12 => simp at hj; omega
            · refine ⟨fun kk ρ u hkk hc hf hb hW hd hgh => ?_, ?_⟩
              · have hkk : kk < 12 := hkk
                exact yield_move _ rfl ⟨hb 5 (by kernel_rfl), next _ _ hW, rfl⟩
              refine ⟨fun kk ρ u hkk hc hf hb hW hd hgh => ?_, ?_⟩
              · have hkk : kk < 12 := hkk
                obtain ⟨p', hp, hR, hG⟩ := hW
                have hz := hG.size
                clear hd hb
                refine yield_value (w' := u.alloc (.cells #[.int .i64 (-1), .int .i64 1000000001, .int .i64 500] 3)) (.slice (some ⟨u.heap.size, 0, none⟩) 3 3) (by simp [go_sem, hc, hf]) ⟨⟨u.heap.size, [.int .i64 (-1), .int .i64 1000000001, .int .i64 500], rfl, by omega, by omega, alloc_new rfl, rfl, ?_⟩, ⟨p', by omega, hR.alloc _, hG.trans (World.grownBy_alloc _ _ _)⟩, World.grownBy_alloc _ _ _⟩
                simp only [List.forall_mem_cons]
                exact ⟨⟨_, rfl, by omega, by omega⟩, ⟨_, rfl, by omega, by omega⟩, ⟨_, rfl, by omega, by omega⟩, fun _ h => by cases h⟩
              refine ⟨fun kk ρ u hkk hc hf hb hW hd hgh => ?_, ?_⟩
              · have hkk : kk < 12 := hkk
                exact yield_move _ rfl ⟨hb 0 (by kernel_rfl), next _ _ hW, rfl⟩
              refine ⟨fun kk ρ u hkk hc hf hb hW hd hgh => ?_, ?_⟩
              · have hkk : kk < 12 := hkk
                have e0 : (ρ (.tmp 53)) = .pointer (some ⟨g, 0, none⟩) := hd.1 rfl rfl
                obtain ⟨p', hp, hR, hG⟩ := hW
                clear hd hb
                refine yield_call 46 #[.pointer (some ⟨g, 0, none⟩), .int .i64 3] (by simp [go_sem, hc, hf, e0]) ?_
                refine (pick_any _ _ _ _ hR (by omega) (by omega) (by omega) ).mono ?_
                rintro e w3 ⟨q, rfl, q0, q1, R3, G3⟩
                exact ⟨_, rfl, ⟨q, rfl, q0, by omega⟩, ⟨p' + 1, by omega, R3, hG.trans G3⟩, G3⟩
              refine ⟨fun kk ρ u hkk hc hf hb hW hd hgh => ?_, ?_⟩
              · have hkk : kk < 12 := hkk
                have e0 : IsLit g g 3 (IsI (-1) 1000000001) 3 (ρ (.tmp 52)) u := hd.1 rfl rfl
                obtain ⟨q1, e1, l1, u1⟩ : IsI 0 2 (ρ (.tmp 54)) := hd.2.1 rfl rfl
                clear hd hb
                obtain ⟨B, eB, hA⟩ := IsLit.at e0 (q := q1) (by omega) (by omega)
                clear e0
                exact yield_value (w' := u) _ (by simp [go_sem, hc, hf, eB, e1, IntWalk.i64_in, show q1 < 3 by omega, l1]) ⟨hA, next _ _ hW, rfl⟩
              refine ⟨fun kk ρ u hkk hc hf hb hW hd hgh => ?_, ?_⟩
              · have hkk : kk < 12 := hkk
                have e0 : IsAt g g (IsI (-1) 1000000001) (ρ (.tmp 55)) u := hd.1 rfl rfl
                obtain ⟨B, j, x, eB, _, _, hx, hq⟩ := e0
                clear hd hb
                obtain ⟨q, rfl, hq⟩ := hq
                exact yield_value (w' := u) _ (by simp [go_sem, hc, hf, eB, hx]) ⟨⟨q, rfl, hq⟩, next _ _ hW, rfl⟩
              refine ⟨fun kk ρ u hkk hc hf hb hW hd hgh => ?_, ?_⟩
              · have hkk : kk < 12 := hkk
                exact yield_move _ rfl ⟨hb 0 (by kernel_rfl), next _ _ hW, rfl⟩
              refine ⟨fun kk ρ u hkk hc hf hb hW hd hgh => ?_, ?_⟩
              · have hkk : kk < 12 := hkk
                have e0 : (ρ (.tmp 57)) = .pointer (some ⟨g, 0, none⟩) := hd.1 rfl rfl
                obtain ⟨p', hp, hR, hG⟩ := hW
                clear hd hb
                refine yield_call 50 #[.pointer (some ⟨g, 0, none⟩), .int .i64 1] (by simp [go_sem, hc, hf, e0]) ?_
                refine (drawSign_any _ _ _ _ hR (by omega) (by omega) (by omega) ).mono ?_
                rintro e w3 ⟨a, b, x, rfl, p3, l3, l4, R3, G3⟩
                exact ⟨_, rfl, ⟨a, b, x, rfl⟩, ⟨p3, by omega, R3, hG.trans G3⟩, G3⟩
              refine ⟨fun kk ρ u hkk hc hf hb hW hd hgh => ?_, ?_⟩
              · have hkk : kk < 12 := hkk
                obtain ⟨q0, e0, l0, u0⟩ : IsI (-1) 1000000001 (ρ (.tmp 56)) := hd.1 rfl rfl
                have e1 : IsKey (ρ (.tmp 58)) := hd.2.1 rfl rfl
                obtain ⟨a, b, e, e1⟩ := e1
                clear hd hb
                exact yield_value (w' := u) (tnA q0 a b e) (by simp [go_sem, hc, hf, e0, e1]) ⟨⟨(q0, a, b, e), rfl⟩, next _ _ hW, rfl⟩
              refine ⟨fun kk ρ u hkk hc hf hb hW hd hgh => ?_, ?_⟩
              · have hkk : kk < 12 := hkk
                obtain ⟨⟨q0, a, b, e⟩, e1⟩ : ∃ x : Tn, ρ (.tmp 59) = tnA x.1 x.2.1 x.2.2.1 x.2.2.2 := hd.1 rfl rfl
                obtain ⟨p', hp, hR, hG⟩ := hW
                have hz := hG.size
                clear hd hb
                exact yield_value (w' := u.alloc (.cells (tnC (q0, a, b, e)).toArray 39)) (.slice (some ⟨u.heap.size, 0, none⟩) 1 1) (by simp [go_sem, hc, hf, e1]) ⟨⟨_, (q0, a, b, e), rfl, hz, alloc_new' rfl⟩, ⟨p', by omega, hR.alloc _, hG.trans (World.grownBy_alloc _ _ _)⟩, World.grownBy_alloc _ _ _⟩
              refine ⟨fun kk ρ u hkk hc hf hb hW hd hgh => ?_, ?_⟩
              · have hkk : kk < 12 := hkk
                have O1 : u.ownsRow w.heap.size 39 4 (.slice B m d) m (tns xs) := hgh (by kernel_rfl)
                have e1 : ρ (.tmp 51) = .slice B m d := hd.1 rfl rfl
                obtain ⟨q, x, e2, hqB, hqc⟩ : ∃ (q : Nat) (x : Tn), ρ (.tmp 60) = .slice (some ⟨q, 0, none⟩) 1 1 ∧ w.heap.size ≤ q ∧ u.heap[q]? = some (.cells (tnC x).toArray 39 (0, 0)) := hd.2.1 rfl rfl
                obtain ⟨p', hp, hR, hG⟩ := hW
                clear hd hb
                refine yield_append (.tmp 51) (.tmp 60) eltTurn rfl w.heap.size _ m _ e1 O1 (some ⟨q, 0, none⟩) 1 1 (tnC x) e2 (see_lit hqc) (by simp) rfl (tnC_one _) (by unfold maxLen; omega) (by omega) hG.size ?_
                intro v' w' O G _
                rw [show tns xs ++ tnC x = tns (xs ++ [x]) by simp [flat]] at O
                refine ⟨⟨x, O⟩, ⟨p', by omega, hR.grown G (fun q hq => by have := (O1.lt q hq).1; omega), ?_⟩, trivial⟩
                exact ⟨G.os.trans hG.os, G.tape.trans hG.tape, G.output.trans hG.output, Nat.le_trans hG.size G.size, fun q hq hne => (G.block q (Nat.lt_of_lt_of_le hq hG.size) (fun e => by have := (O1.lt q e.symm).1; omega)).trans (hG.block q hq hne)⟩
              refine ⟨fun kk ρ u hkk hc hf hb hW hd hgh => ?_, ?_⟩
              · have hkk : kk < 12 := hkk
                exact yield_assign _ rfl ⟨hd.1 rfl rfl, next _ _ hW, rfl⟩
              trivial
            intro env w5 hW hF
            obtain ⟨p5, hp5, R5, G5'⟩ := hW
            simp only [List.length_cons, List.length_nil, Nat.reduceAdd, Nat.reduceMul] at hp5
            have l5 : p2 ≤ p + 203 := by clear hp5 hF next; omega
            have hp6 : p5 ≤ 0 + (p + 1000) := pos_sum l5 hQ hp5 (by decide)
            obtain ⟨x, O5⟩ : ∃ x : Tn, w5.ownsRow w.heap.size 39 4 (env 11) (m + 1) (tns (xs ++ [x])) := hF 11 (of_decide_eq_true (by kernel_rfl)) (fun i hi => by match i with | 0 | 1 | 2 | 3 | 4 | 5 | 6 | 7 | 8 | 9 | 10 | 11 => rfl | _ + 12 => simp at hi; omega)
            clear hF next hp5
            have hr : List.range 63 = [0, 1, 2, 3, 4, 5, 6, 7, 8, 9, 10, 11, 12, 13, 14, 15, 16, 17, 18, 19, 20, 21, 22, 23, 24, 25, 26, 27, 28, 29, 30, 31, 32, 33, 34, 35, 36, 37, 38, 39, 40, 41, 42, 43, 44, 45, 46, 47, 48, 49, 50, 51, 52, 53, 54, 55, 56, 57, 58, 59, 60, 61, 62] := by kernel_rfl
            unfold after
            simp only [List.size_toArray, List.length_cons, List.length_nil, Nat.reduceAdd, hr, List.map_cons, List.map_nil]
            simp [idxOf, List.findIdx?, List.findIdx?.go]
            clear hr
            clear O3 R3 G5
            obtain ⟨B5, d5, e5, _⟩ := own_form O5
            rw [e5] at O5 ⊢
            clear e5
            go_wp2
            go_ret
            exact ⟨B5, m + 1, d5, _, rfl, O5, by omega, Turn.mk' (Nat.zero_le _) hp6 R5 G5'⟩
        · have hm1 : m = 0 := by omega
          have t2 : decide ((0 : Int) < (m : Int)) = false := by simp; omega
          have HM := hid hm1
          clear hm1
          go_wp2_with fail
          obtain ⟨Q, hQ, R2⟩ : ∃ Q, Q ≤ p2 + 1 ∧ Rd w2 g Q := ⟨_, by omega, R2⟩
          have next : ∀ k u, (fun k u => ∃ p', p' ≤ Q + 41 * k ∧ Rd u g p' ∧ w.grownBy u (some g)) k u → (fun k u => ∃ p', p' ≤ Q + 41 * k ∧ Rd u g p' ∧ w.grownBy u (some g)) (k + 1) u := fun k u ⟨p', hp, h⟩ => ⟨p', by omega, h⟩
          refine wp_region_ghost (d := 10) (G := fun u => u.ownsRow w.heap.size 39 4 (.slice B m d) m (tns xs)) (W := fun k u => ∃ p', p' ≤ Q + 41 * k ∧ Rd u g p' ∧ w.grownBy u (some g)) (dead := fun i j => (i == 10 && j == 1) || (i == 10 && j == 4) || (i == 10 && j == 9) || (i == 11 && j == 10))
            (Tr := fun i a b => match i with | 1 => a.grownBy b (some g) | 3 => a.grownBy b (some g) | 7 => a.grownBy b (some g) | 9 => a.grownBy b (some g) | 10 => True | _ => a = b)
            (F := fun i v w' => match i with
              | 0 => v = .slice B m d
              | 1 => IsLit g g 3 (IsI (-1) 1000000001) 3 v w'
              | 2 => v = .pointer (some ⟨g, 0, none⟩)
              | 3 => IsI 0 2 v
              | 4 => IsAt g g (IsI (-1) 1000000001) v w'
              | 5 => IsI (-1) 1000000001 v
              | 6 => v = .pointer (some ⟨g, 0, none⟩)
              | 7 => IsKey v
              | 8 => ∃ x : Tn, v = tnA x.1 x.2.1 x.2.2.1 x.2.2.2
              | 9 => ∃ (q : Nat) (x : Tn), v = .slice (some ⟨q, 0, none⟩) 1 1 ∧ w.heap.size ≤ q ∧ w'.heap[q]? = some (.cells (tnC x).toArray 39 (0, 0))
              | 10 => ∃ x : Tn, w'.ownsRow w.heap.size 39 4 v (m + 1) (tns (xs ++ [x]))
              | 11 => ∃ x : Tn, w'.ownsRow w.heap.size 39 4 v (m + 1) (tns (xs ++ [x]))
              | _ => True) (by kernel_rfl) (by kernel_rfl) (by kernel_rfl) ?_ O2 ?_ ?_ ?_ ?_
          · exact ⟨Q, by omega, R2.drewN 1, ⟨G3.os, G3.tape, G3.output, G3.size, G3.block⟩⟩
          · intro i kk a b hi hne hW hT hF
            match i with
            | 0 => have hT' : a = b := hT; subst hT'; exact hF
            | 1 => exact World.ownsRow.kept hF hT (by right; intro e; have := (World.ownsRow.lt hF g e).1; omega)
            | 2 => have hT' : a = b := hT; subst hT'; exact hF
            | 3 => exact World.ownsRow.kept hF hT (by right; intro e; have := (World.ownsRow.lt hF g e).1; omega)
            | 4 => have hT' : a = b := hT; subst hT'; exact hF
            | 5 => have hT' : a = b := hT; subst hT'; exact hF
            | 6 => have hT' : a = b := hT; subst hT'; exact hF
            | 7 => exact World.ownsRow.kept hF hT (by right; intro e; have := (World.ownsRow.lt hF g e).1; omega)
            | 8 => have hT' : a = b := hT; subst hT'; exact hF
            | 9 => exact World.ownsRow.kept hF hT (by right; intro e; have := (World.ownsRow.lt hF g e).1; omega)
            | 10 => exact absurd rfl hne
            | 11 => have hT' : a = b := hT; subst hT'; exact hF
            | _ + 12 => simp at hi; omega
          · intro i j kk a b v hi hj hne hdd haa hW hT hF
            match i, j with
            | _, 0 => exact hF
            | 0, 1 => have hT' : a = b := hT; subst hT'; exact hF
            | 1, 1 => exact absurd rfl hne
            | 2, 1 => have hT' : a = b := hT; subst hT'; exact hF
            | 3, 1 => exact IsLit.kept hF (Kept.of hT)
            | 4, 1 => have hT' : a = b := hT; subst hT'; exact hF
            | 5, 1 => have hT' : a = b := hT; subst hT'; exact hF
            | 6, 1 => have hT' : a = b := hT; subst hT'; exact hF
            | 7, 1 => exact IsLit.kept hF (Kept.of hT)
            | 8, 1 => have hT' : a = b := hT; subst hT'; exact hF
            | 9, 1 => exact IsLit.kept hF (Kept.of hT)
            | 10, 1 => exact absurd hdd (by decide)
            | 11, 1 => have hT' : a = b := hT; subst hT'; exact hF
            | _ + 12, 1 => simp at hi; omega
            | _, 2 => exact hF
            | _, 3 => exact hF
            | 0, 4 => have hT' : a = b := hT; subst hT'; exact hF
            | 1, 4 => exact absurd (haa.symm.trans (show ancB _ _ _ _ = true by kernel_rfl)) (by decide)
            | 2, 4 => have hT' : a = b := hT; subst hT'; exact hF
            | 3, 4 => exact absurd (haa.symm.trans (show ancB _ _ _ _ = true by kernel_rfl)) (by decide)
            | 4, 4 => exact absurd rfl hne
            | 5, 4 => have hT' : a = b := hT; subst hT'; exact hF
            | 6, 4 => have hT' : a = b := hT; subst hT'; exact hF
            | 7, 4 => exact IsAt.kept hF (Kept.of hT)
            | 8, 4 => have hT' : a = b := hT; subst hT'; exact hF
            | 9, 4 => exact IsAt.kept hF (Kept.of hT)
            | 10, 4 => exact absurd hdd (by decide)
            | 11, 4 => have hT' : a = b := hT; subst hT'; exact hF
            | _ + 12, 4 => simp at hi; omega
            | _, 5 => exact hF
            | _, 6 => exact hF
            | _, 7 => exact hF
            | _, 8 => exact hF
            | 0, 9 => have hT' : a = b := hT; subst hT'; exact hF
            | 1, 9 => exact absurd (haa.symm.trans (show ancB _ _ _ _ = true by kernel_rfl)) (by decide)
            | 2, 9 => have hT' : a = b := hT; subst hT'; exact hF
            | 3, 9 => exact absurd (haa.symm.trans (show ancB _ _ _ _ = true by kernel_rfl)) (by decide)
            | 4, 9 => have hT' : a = b := hT; subst hT'; exact hF
            | 5, 9 => have hT' : a = b := hT; subst hT'; exact hF
            | 6, 9 => have hT' : a = b := hT; subst hT'; exact hF
            | 7, 9 => exact absurd (haa.symm.trans (show ancB _ _ _ _ = true by kernel_rfl)) (by decide)
            | 8, 9 => have hT' : a = b := hT; subst hT'; exact hF
            | 9, 9 => exact absurd rfl hne
            | 10, 9 => exact absurd hdd (by decide)
            | 11, 9 => have hT' : a = b := hT; subst hT'; exact hF
            | _ + 12, 9 => simp at hi; omega
            | 0, 10 => have hT' : a = b := hT; subst hT'; exact hF
            | 1, 10 => exact absurd (haa.symm.trans (show ancB _ _ _ _ = true by kernel_rfl)) (by decide)
            | 2, 10 => have hT' : a = b := hT; subst hT'; exact hF
            | 3, 10 => exact absurd (haa.symm.trans (show ancB _ _ _ _ = true by kernel_rfl)) (by decide)
            | 4, 10 => have hT' : a = b := hT; subst hT'; exact hF
            | 5, 10 => have hT' : a = b := hT; subst hT'; exact hF
            | 6, 10 => have hT' : a = b := hT; subst hT'; exact hF
            | 7, 10 => exact absurd (haa.symm.trans (show ancB _ _ _ _ = true by kernel_rfl)) (by decide)
            | 8, 10 => have hT' : a = b := hT; subst hT'; exact hF
            | 9, 10 => exact absurd (haa.symm.trans (show ancB _ _ _ _ = true by kernel_rfl)) (by decide)
            | 10, 10 => exact absurd rfl hne
            | 11, 10 => exact absurd hdd (by decide)
            | _ + 12, 10 => simp at hi; omega
            | 0, 11 => have hT' : a = b := hT; subst hT'; exact hF
            | 1, 11 => exact absurd (haa.symm.trans (show ancB _ _ _ _ = true by kernel_rfl)) (by decide)
            | 2, 11 => have hT' : a = b := hT; subst hT'; exact hF
            | 3, 11 => exact absurd (haa.symm.trans (show ancB _ _ _ _ = true by kernel_rfl)) (by decide)
            | 4, 11 => have hT' : a = b := hT; subst hT'; exact hF
            | 5, 11 => have hT' : a = b := hT; subst hT'; exact hF
            | 6, 11 => have hT' : a = b := hT; subst hT'; exact hF
            | 7, 11 => exact absurd (haa.symm.trans (show ancB _ _ _ _ = true by kernel_rfl)) (by decide)
            | 8, 11 => have hT' : a = b := hT; subst hT'; exact hF
            | 9, 11 => exact absurd (haa.symm.trans (show ancB _ _ _ _ = true by kernel_rfl)) (by decide)
            | 10, 11 => exact absurd (haa.symm.trans (show ancB _ _ _ _ = true by kernel_rfl)) (by decide)
            | 11, 11 => exact absurd rfl hne
            | _ + 12, 11 => simp at hi; omega
            | _, _ + 12 => simp at hj; omega
          · refine ⟨fun kk ρ u hkk hc hf hb hW hd hgh => ?_, ?_⟩
            · have hkk : kk < 12 := hkk
              exact yield_move _ rfl ⟨hb 5 (by kernel_rfl), next _ _ hW, rfl⟩
            refine ⟨fun kk ρ u hkk hc hf hb hW hd hgh => ?_, ?_⟩
            · have hkk : kk < 12 := hkk
              obtain ⟨p', hp, hR, hG⟩ := hW
              have hz := hG.size
              clear hd hb
              refine yield_value (w' := u.alloc (.cells #[.int .i64 (-1), .int .i64 1000000001, .int .i64 500] 3)) (.slice (some ⟨u.heap.size, 0, none⟩) 3 3) (by simp [go_sem, hc, hf]) ⟨⟨u.heap.size, [.int .i64 (-1), .int .i64 1000000001, .int .i64 500], rfl, by omega, by omega, alloc_new rfl, rfl, ?_⟩, ⟨p', by omega, hR.alloc _, hG.trans (World.grownBy_alloc _ _ _)⟩, World.grownBy_alloc _ _ _⟩
              simp only [List.forall_mem_cons]
              exact ⟨⟨_, rfl, by omega, by omega⟩, ⟨_, rfl, by omega, by omega⟩, ⟨_, rfl, by omega, by omega⟩, fun _ h => by cases h⟩
            refine ⟨fun kk ρ u hkk hc hf hb hW hd hgh => ?_, ?_⟩
            · have hkk : kk < 12 := hkk
              exact yield_move _ rfl ⟨hb 0 (by kernel_rfl), next _ _ hW, rfl⟩
            refine ⟨fun kk ρ u hkk hc hf hb hW hd hgh => ?_, ?_⟩
            · have hkk : kk < 12 := hkk
              have e0 : (ρ (.tmp 53)) = .pointer (some ⟨g, 0, none⟩) := hd.1 rfl rfl
              obtain ⟨p', hp, hR, hG⟩ := hW
              clear hd hb
              refine yield_call 46 #[.pointer (some ⟨g, 0, none⟩), .int .i64 3] (by simp [go_sem, hc, hf, e0]) ?_
              refine (pick_any _ _ _ _ hR (by omega) (by omega) (by omega) ).mono ?_
              rintro e w3 ⟨q, rfl, q0, q1, R3, G3⟩
              exact ⟨_, rfl, ⟨q, rfl, q0, by omega⟩, ⟨p' + 1, by omega, R3, hG.trans G3⟩, G3⟩
            refine ⟨fun kk ρ u hkk hc hf hb hW hd hgh => ?_, ?_⟩
            · have hkk : kk < 12 := hkk
              have e0 : IsLit g g 3 (IsI (-1) 1000000001) 3 (ρ (.tmp 52)) u := hd.1 rfl rfl
              obtain ⟨q1, e1, l1, u1⟩ : IsI 0 2 (ρ (.tmp 54)) := hd.2.1 rfl rfl
              clear hd hb
              obtain ⟨B, eB, hA⟩ := IsLit.at e0 (q := q1) (by omega) (by omega)
              clear e0
              exact yield_value (w' := u) _ (by simp [go_sem, hc, hf, eB, e1, IntWalk.i64_in, show q1 < 3 by omega, l1]) ⟨hA, next _ _ hW, rfl⟩
            refine ⟨fun kk ρ u hkk hc hf hb hW hd hgh => ?_, ?_⟩
            · have hkk : kk < 12 := hkk
              have e0 : IsAt g g (IsI (-1) 1000000001) (ρ (.tmp 55)) u := hd.1 rfl rfl
              obtain ⟨B, j, x, eB, _, _, hx, hq⟩ := e0
              clear hd hb
              obtain ⟨q, rfl, hq⟩ := hq
              exact yield_value (w' := u) _ (by simp [go_sem, hc, hf, eB, hx]) ⟨⟨q, rfl, hq⟩, next _ _ hW, rfl⟩
            refine ⟨fun kk ρ u hkk hc hf hb hW hd hgh => ?_, ?_⟩
            · have hkk : kk < 12 := hkk
              exact yield_move _ rfl ⟨hb 0 (by kernel_rfl), next _ _ hW, rfl⟩
            refine ⟨fun kk ρ u hkk hc hf hb hW hd hgh => ?_, ?_⟩
            · have hkk : kk < 12 := hkk
              have e0 : (ρ (.tmp 57)) = .pointer (some ⟨g, 0, none⟩) := hd.1 rfl rfl
              obtain ⟨p', hp, hR, hG⟩ := hW
              clear hd hb
              refine yield_call 50 #[.pointer (some ⟨g, 0, none⟩), .int .i64 1] (by simp [go_sem, hc, hf, e0]) ?_
              refine (drawSign_any _ _ _ _ hR (by omega) (by omega) (by omega) ).mono ?_
              rintro e w3 ⟨a, b, x, rfl, p3, l3, l4, R3, G3⟩
              exact ⟨_, rfl, ⟨a, b, x, rfl⟩, ⟨p3, by omega, R3, hG.trans G3⟩, G3⟩
            refine ⟨fun kk ρ u hkk hc hf hb hW hd hgh => ?_, ?_⟩
            · have hkk : kk < 12 := hkk
              obtain ⟨q0, e0, l0, u0⟩ : IsI (-1) 1000000001 (ρ (.tmp 56)) := hd.1 rfl rfl
              have e1 : IsKey (ρ (.tmp 58)) := hd.2.1 rfl rfl
              obtain ⟨a, b, e, e1⟩ := e1
              clear hd hb
              exact yield_value (w' := u) (tnA q0 a b e) (by simp [go_sem, hc, hf, e0, e1]) ⟨⟨(q0, a, b, e), rfl⟩, next _ _ hW, rfl⟩
            refine ⟨fun kk ρ u hkk hc hf hb hW hd hgh => ?_, ?_⟩
            · have hkk : kk < 12 := hkk
              obtain ⟨⟨q0, a, b, e⟩, e1⟩ : ∃ x : Tn, ρ (.tmp 59) = tnA x.1 x.2.1 x.2.2.1 x.2.2.2 := hd.1 rfl rfl
              obtain ⟨p', hp, hR, hG⟩ := hW
              have hz := hG.size
              clear hd hb
              exact yield_value (w' := u.alloc (.cells (tnC (q0, a, b, e)).toArray 39)) (.slice (some ⟨u.heap.size, 0, none⟩) 1 1) (by simp [go_sem, hc, hf, e1]) ⟨⟨_, (q0, a, b, e), rfl, hz, alloc_new' rfl⟩, ⟨p', by omega, hR.alloc _, hG.trans (World.grownBy_alloc _ _ _)⟩, World.grownBy_alloc _ _ _⟩
            refine ⟨fun kk ρ u hkk hc hf hb hW hd hgh => ?_, ?_⟩
            · have hkk : kk < 12 := hkk
              have O1 : u.ownsRow w.heap.size 39 4 (.slice B m d) m (tns xs) := hgh (by kernel_rfl)
              have e1 : ρ (.tmp 51) = .slice B m d := hd.1 rfl rfl
              obtain ⟨q, x, e2, hqB, hqc⟩ : ∃ (q : Nat) (x : Tn), ρ (.tmp 60) = .slice (some ⟨q, 0, none⟩) 1 1 ∧ w.heap.size ≤ q ∧ u.heap[q]? = some (.cells (tnC x).toArray 39 (0, 0)) := hd.2.1 rfl rfl
              obtain ⟨p', hp, hR, hG⟩ := hW
              clear hd hb
              refine yield_append (.tmp 51) (.tmp 60) eltTurn rfl w.heap.size _ m _ e1 O1 (some ⟨q, 0, none⟩) 1 1 (tnC x) e2 (see_lit hqc) (by simp) rfl (tnC_one _) (by unfold maxLen; omega) (by omega) hG.size ?_
              intro v' w' O G _
              rw [show tns xs ++ tnC x = tns (xs ++ [x]) by simp [flat]] at O
              refine ⟨⟨x, O⟩, ⟨p', by omega, hR.grown G (fun q hq => by have := (O1.lt q hq).1; omega), ?_⟩, trivial⟩
              exact ⟨G.os.trans hG.os, G.tape.trans hG.tape, G.output.trans hG.output, Nat.le_trans hG.size G.size, fun q hq hne => (G.block q (Nat.lt_of_lt_of_le hq hG.size) (fun e => by have := (O1.lt q e.symm).1; omega)).trans (hG.block q hq hne)⟩
            refine ⟨fun kk ρ u hkk hc hf hb hW hd hgh => ?_, ?_⟩
            · have hkk : kk < 12 := hkk
              exact yield_assign _ rfl ⟨hd.1 rfl rfl, next _ _ hW, rfl⟩
            trivial
          intro env w5 hW hF
          obtain ⟨p5, hp5, R5, G5'⟩ := hW
          simp only [List.length_cons, List.length_nil, Nat.reduceAdd, Nat.reduceMul] at hp5
          have l5 : p2 ≤ p + 203 := by clear hp5 hF next; omega
          have hp6 : p5 ≤ 0 + (p + 1000) := pos_sum l5 hQ hp5 (by decide)
          obtain ⟨x, O5⟩ : ∃ x : Tn, w5.ownsRow w.heap.size 39 4 (env 11) (m + 1) (tns (xs ++ [x])) := hF 11 (of_decide_eq_true (by kernel_rfl)) (fun i hi => by match i with | 0 | 1 | 2 | 3 | 4 | 5 | 6 | 7 | 8 | 9 | 10 | 11 => rfl | _ + 12 => simp at hi; omega)
          clear hF next hp5
          have hr : List.range 63 = [0, 1, 2, 3, 4, 5, 6, 7, 8, 9, 10, 11, 12, 13, 14, 15, 16, 17, 18, 19, 20, 21, 22, 23, 24, 25, 26, 27, 28, 29, 30, 31, 32, 33, 34, 35, 36, 37, 38, 39, 40, 41, 42, 43, 44, 45, 46, 47, 48, 49, 50, 51, 52, 53, 54, 55, 56, 57, 58, 59, 60, 61, 62] := by kernel_rfl
          unfold after
          simp only [List.size_toArray, List.length_cons, List.length_nil, Nat.reduceAdd, hr, List.map_cons, List.map_nil]
          simp [idxOf, List.findIdx?, List.findIdx?.go]
          clear hr
          clear O2 R2 G3
          obtain ⟨B5, d5, e5, _⟩ := own_form O5
          rw [e5] at O5 ⊢
          clear e5
          go_wp2
          go_ret
          exact ⟨B5, m + 1, d5, _, rfl, O5, by omega, Turn.mk' (Nat.zero_le _) hp6 R5 G5'⟩
theorem drawTurnV_any (A : Option Addr) (n c : Nat) (xs : List Int) (w : World) (h : Row .u8 w A n c xs) :
    Calls Try.prog 19 #[.slice A n c] w fun e w' => ∃ B k d ys, e = .returned (.slice B k d) ∧ w'.ownsRow w.heap.size 39 4 (.slice B k d) k (tns ys) ∧ k ≤ 8 ∧ Below w.heap.size w w' := by
  go_enter Try.func19, Try.ntmps19
  go_wp2_with fail
  refine (open_any A n c xs w h.sl h.byte).mono ?_
  rintro e w1 ⟨rfl, R1, B1⟩
  go_wp2_with fail
  refine (turns_any _ _ 2 _ R1 (by omega) (by omega) (by omega)).mono ?_
  rintro e w2 ⟨B, k, d, ys, rfl, O, hk, T⟩
  have B2 := B1.trans (T.below (Nat.le_refl _) B1.size)
  have O := own_lower O B1.size
  clear R1 B1 T
  go_wp2_with fail
  go_ret
  exact ⟨B, k, d, ys, rfl, O, hk, B2⟩
end Go.Proofs.Ytcpepjnmjiffcaa
