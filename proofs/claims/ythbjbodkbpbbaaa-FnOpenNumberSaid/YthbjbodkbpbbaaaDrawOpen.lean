/- The contract of the draw of a modulus, an exponent and a number. -/
import Derived.Test.YthbjbodkbpbbaaaDrawKey
import Derived.Test.YthbjbodkbpbbaaaFacts
namespace Go.Proofs.Ythbjbodkbpbbaaa
open Go.RowKit
set_option linter.unusedVariables false
set_option linter.unusedSimpArgs false

theorem drawOpen_any (A : Option Addr) (n c : Nat) (xs : List Int) (w : World) (h : Row .u8 w A n c xs) :
    Calls Try.prog 14 #[.slice A n c] w fun e w' => ∃ m x a : Int, e = .returned (.tuple #[.int .i64 m, .int .i64 x, .int .i64 a]) ∧ 0 ≤ m ∧ m ≤ 1000001 ∧ 0 ≤ a ∧ a ≤ 3000000 ∧ Below w.heap.size w w' := by
  go_enter Try.func14, Try.ntmps14
  go_wp2_with fail
  refine (open_any A n c xs w h.sl h.byte).mono ?_
  rintro e w1 ⟨rfl, R1, B1⟩
  go_wp2_with fail
  refine (modulus_any _ _ _ R1 (by omega)).mono ?_
  rintro e w2 ⟨m, rfl, m0, m1, p2, _, hp2, R2, G2⟩
  have B2 := B1.grown G2 B1.size (by rintro _ ⟨rfl⟩; exact Nat.le_refl _)
  clear B1 R1 G2 h
  go_wp2_with fail
  have next : ∀ k w', (fun k w' => ∃ p', p' ≤ p2 + 2 * k ∧ Rd w' w.heap.size p' ∧ Kept w.heap.size w.heap.size w2 w') k w' → (fun k w' => ∃ p', p' ≤ p2 + 2 * k ∧ Rd w' w.heap.size p' ∧ Kept w.heap.size w.heap.size w2 w') (k + 1) w' := fun k w' ⟨p', hp, h⟩ => ⟨p', by omega, h⟩
  refine wp_region_steps (W := fun k w' => ∃ p', p' ≤ p2 + 2 * k ∧ Rd w' w.heap.size p' ∧ Kept w.heap.size w.heap.size w2 w') (Tr := fun a b => Kept w.heap.size w.heap.size a b) (F := fun i v w' => match i with
      | 0 => v = .int .i64 m
      | 1 => v = .pointer (some ⟨w.heap.size, 0, none⟩)
      | 2 => IsI 0 59 v
      | 3 => IsI 3 62 v
      | 4 => IsLit w.heap.size w.heap.size 4 (IsI 2 1001) 3 v w'
      | 5 => IsLit w.heap.size w.heap.size 7 (IsI 0 3) 3 v w'
      | 6 => v = .pointer (some ⟨w.heap.size, 0, none⟩)
      | 7 => IsI 0 6 v
      | 8 => IsAt w.heap.size w.heap.size (IsI 0 3) v w'
      | 9 => IsI 0 3 v
      | 10 => IsAt w.heap.size w.heap.size (IsI 2 1001) v w'
      | 11 => IsI 2 1001 v
      | 12 => v = .pointer (some ⟨w.heap.size, 0, none⟩)
      | 13 => v = .int .i64 m
      | 14 => IsI 0 3000000 v
      | 15 => v = .int .i64 m
      | 16 => IsI 2 1001 v
      | 17 => IsI 0 3000000 v
      | _ => True) (by kernel_rfl) (by kernel_rfl) ?_ ?_ ?_ ?_
  · exact ⟨p2, by omega, R2.drewN 1, Kept.drew _ _ _⟩
  · intro k a b i v hW hT hF
    match i with
    | 0 => exact hF
    | 1 => exact hF
    | 2 => exact hF
    | 3 => exact hF
    | 4 => exact IsLit.kept hF hT
    | 5 => exact IsLit.kept hF hT
    | 6 => exact hF
    | 7 => exact hF
    | 8 => exact IsAt.kept hF hT
    | 9 => exact hF
    | 10 => exact IsAt.kept hF hT
    | 11 => exact hF
    | 12 => exact hF
    | 13 => exact hF
    | 14 => exact hF
    | 15 => exact hF
    | 16 => exact hF
    | 17 => exact hF
    | _ + 18 => trivial
  · refine ⟨fun k ρ u hk hc hf hb hW hd => ?_, ?_⟩
    · have hk : k < 18 := hk
      exact yield_move _ rfl ⟨hb 6 (by kernel_rfl), next _ _ hW, Kept.refl _ _ _⟩
    refine ⟨fun k ρ u hk hc hf hb hW hd => ?_, ?_⟩
    · have hk : k < 18 := hk
      exact yield_move _ rfl ⟨hb 5 (by kernel_rfl), next _ _ hW, Kept.refl _ _ _⟩
    refine ⟨fun k ρ u hk hc hf hb hW hd => ?_, ?_⟩
    · have hk : k < 18 := hk
      have e0 : (ρ (.tmp 12)) = .pointer (some ⟨w.heap.size, 0, none⟩) := hd.1 rfl rfl
      obtain ⟨p', hp, hR, hG⟩ := hW
      clear hd hb
      refine yield_call 44 #[.pointer (some ⟨w.heap.size, 0, none⟩), .int .i64 60] (by simp [go_sem, hc, hf, e0]) ?_
      refine (pick_any _ _ _ _ hR (by omega) (by omega) (by omega) ).mono ?_
      rintro e w3 ⟨q, rfl, q0, q1, R3, G3⟩
      exact ⟨_, rfl, ⟨q, rfl, q0, by omega⟩, ⟨p' + 1, by omega, R3, hG.trans (.of G3)⟩, .of G3⟩
    refine ⟨fun k ρ u hk hc hf hb hW hd => ?_, ?_⟩
    · have hk : k < 18 := hk
      obtain ⟨q1, e1, l1, u1⟩ : IsI 0 59 (ρ (.tmp 13)) := hd.1 rfl rfl
      clear hd hb
      have hw := IntWalk.i64_in (3 + q1) ⟨by omega, by omega⟩
      exact yield_value (w' := u) (.int .i64 (3 + q1)) (by simp [go_sem, hc, hf, e1, hw]) ⟨⟨_, rfl, by omega, by omega⟩, next _ _ hW, Kept.refl _ _ _⟩
    refine ⟨fun k ρ u hk hc hf hb hW hd => ?_, ?_⟩
    · have hk : k < 18 := hk
      obtain ⟨q0, e0, l0, u0⟩ : IsI 3 62 (ρ (.tmp 14)) := hd.1 rfl rfl
      obtain ⟨p', hp, hR, hG⟩ := hW
      have hz := hR.lt
      clear hd hb
      refine yield_value (w' := u.alloc (.cells #[.int .i64 q0, .int .i64 1000, .int .i64 2, .int .i64 1001] 3)) (.slice (some ⟨u.heap.size, 0, none⟩) 4 4) (by simp [go_sem, hc, hf, e0]) ⟨⟨u.heap.size, [.int .i64 q0, .int .i64 1000, .int .i64 2, .int .i64 1001], rfl, by omega, by omega, alloc_new rfl, rfl, ?_⟩, ⟨p', by omega, hR.alloc _, hG.trans (Kept.alloc _ _ _ _)⟩, Kept.alloc _ _ _ _⟩
      simp only [List.forall_mem_cons]
      exact ⟨⟨_, rfl, by omega, by omega⟩, ⟨_, rfl, by omega, by omega⟩, ⟨_, rfl, by omega, by omega⟩, ⟨_, rfl, by omega, by omega⟩, fun _ h => by cases h⟩
    refine ⟨fun k ρ u hk hc hf hb hW hd => ?_, ?_⟩
    · have hk : k < 18 := hk
      obtain ⟨p', hp, hR, hG⟩ := hW
      have hz := hR.lt
      clear hd hb
      refine yield_value (w' := u.alloc (.cells #[.int .i64 0, .int .i64 0, .int .i64 0, .int .i64 0, .int .i64 1, .int .i64 2, .int .i64 3] 3)) (.slice (some ⟨u.heap.size, 0, none⟩) 7 7) (by simp [go_sem, hc, hf]) ⟨⟨u.heap.size, [.int .i64 0, .int .i64 0, .int .i64 0, .int .i64 0, .int .i64 1, .int .i64 2, .int .i64 3], rfl, by omega, by omega, alloc_new rfl, rfl, ?_⟩, ⟨p', by omega, hR.alloc _, hG.trans (Kept.alloc _ _ _ _)⟩, Kept.alloc _ _ _ _⟩
      simp only [List.forall_mem_cons]
      exact ⟨⟨_, rfl, by omega, by omega⟩, ⟨_, rfl, by omega, by omega⟩, ⟨_, rfl, by omega, by omega⟩, ⟨_, rfl, by omega, by omega⟩, ⟨_, rfl, by omega, by omega⟩, ⟨_, rfl, by omega, by omega⟩, ⟨_, rfl, by omega, by omega⟩, fun _ h => by cases h⟩
    refine ⟨fun k ρ u hk hc hf hb hW hd => ?_, ?_⟩
    · have hk : k < 18 := hk
      exact yield_move _ rfl ⟨hb 5 (by kernel_rfl), next _ _ hW, Kept.refl _ _ _⟩
    refine ⟨fun k ρ u hk hc hf hb hW hd => ?_, ?_⟩
    · have hk : k < 18 := hk
      have e0 : (ρ (.tmp 17)) = .pointer (some ⟨w.heap.size, 0, none⟩) := hd.1 rfl rfl
      obtain ⟨p', hp, hR, hG⟩ := hW
      clear hd hb
      refine yield_call 44 #[.pointer (some ⟨w.heap.size, 0, none⟩), .int .i64 7] (by simp [go_sem, hc, hf, e0]) ?_
      refine (pick_any _ _ _ _ hR (by omega) (by omega) (by omega) ).mono ?_
      rintro e w3 ⟨q, rfl, q0, q1, R3, G3⟩
      exact ⟨_, rfl, ⟨q, rfl, q0, by omega⟩, ⟨p' + 1, by omega, R3, hG.trans (.of G3)⟩, .of G3⟩
    refine ⟨fun k ρ u hk hc hf hb hW hd => ?_, ?_⟩
    · have hk : k < 18 := hk
      have e0 : IsLit w.heap.size w.heap.size 7 (IsI 0 3) 3 (ρ (.tmp 16)) u := hd.1 rfl rfl
      obtain ⟨q1, e1, l1, u1⟩ : IsI 0 6 (ρ (.tmp 18)) := hd.2.1 rfl rfl
      clear hd hb
      obtain ⟨B, eB, hA⟩ := IsLit.at e0 (q := q1) (by omega) (by omega)
      clear e0
      exact yield_value (w' := u) _ (by simp [go_sem, hc, hf, eB, e1, IntWalk.i64_in, show q1 < 7 by omega, l1]) ⟨hA, next _ _ hW, Kept.refl _ _ _⟩
    refine ⟨fun k ρ u hk hc hf hb hW hd => ?_, ?_⟩
    · have hk : k < 18 := hk
      have e0 : IsAt w.heap.size w.heap.size (IsI 0 3) (ρ (.tmp 19)) u := hd.1 rfl rfl
      obtain ⟨B, j, x, eB, _, _, hx, hq⟩ := e0
      clear hd hb
      obtain ⟨q, rfl, hq⟩ := hq
      exact yield_value (w' := u) _ (by simp [go_sem, hc, hf, eB, hx]) ⟨⟨q, rfl, hq⟩, next _ _ hW, Kept.refl _ _ _⟩
    refine ⟨fun k ρ u hk hc hf hb hW hd => ?_, ?_⟩
    · have hk : k < 18 := hk
      have e0 : IsLit w.heap.size w.heap.size 4 (IsI 2 1001) 3 (ρ (.tmp 15)) u := hd.1 rfl rfl
      obtain ⟨q1, e1, l1, u1⟩ : IsI 0 3 (ρ (.tmp 20)) := hd.2.1 rfl rfl
      clear hd hb
      obtain ⟨B, eB, hA⟩ := IsLit.at e0 (q := q1) (by omega) (by omega)
      clear e0
      exact yield_value (w' := u) _ (by simp [go_sem, hc, hf, eB, e1, IntWalk.i64_in, show q1 < 4 by omega, l1]) ⟨hA, next _ _ hW, Kept.refl _ _ _⟩
    refine ⟨fun k ρ u hk hc hf hb hW hd => ?_, ?_⟩
    · have hk : k < 18 := hk
      have e0 : IsAt w.heap.size w.heap.size (IsI 2 1001) (ρ (.tmp 21)) u := hd.1 rfl rfl
      obtain ⟨B, j, x, eB, _, _, hx, hq⟩ := e0
      clear hd hb
      obtain ⟨q, rfl, hq⟩ := hq
      exact yield_value (w' := u) _ (by simp [go_sem, hc, hf, eB, hx]) ⟨⟨q, rfl, hq⟩, next _ _ hW, Kept.refl _ _ _⟩
    refine ⟨fun k ρ u hk hc hf hb hW hd => ?_, ?_⟩
    · have hk : k < 18 := hk
      exact yield_move _ rfl ⟨hb 5 (by kernel_rfl), next _ _ hW, Kept.refl _ _ _⟩
    refine ⟨fun k ρ u hk hc hf hb hW hd => ?_, ?_⟩
    · have hk : k < 18 := hk
      exact yield_move _ rfl ⟨hb 6 (by kernel_rfl), next _ _ hW, Kept.refl _ _ _⟩
    refine ⟨fun k ρ u hk hc hf hb hW hd => ?_, ?_⟩
    · have hk : k < 18 := hk
      have e0 : (ρ (.tmp 23)) = .pointer (some ⟨w.heap.size, 0, none⟩) := hd.1 rfl rfl
      have e1 : (ρ (.tmp 24)) = .int .i64 m := hd.2.1 rfl rfl
      obtain ⟨p', hp, hR, hG⟩ := hW
      clear hd hb
      refine yield_call 45 #[.pointer (some ⟨w.heap.size, 0, none⟩), .int .i64 m] (by simp [go_sem, hc, hf, e0, e1]) ?_
      refine (below_any _ _ _ _ hR (by omega) m0 m1 ).mono ?_
      rintro e w3 ⟨q, rfl, q0, q1, p3, _, hp3, R3, G3⟩
      exact ⟨_, rfl, ⟨q, rfl, q0, q1⟩, ⟨p3, by omega, R3, hG.trans (.of G3)⟩, .of G3⟩
    refine ⟨fun k ρ u hk hc hf hb hW hd => ?_, ?_⟩
    · have hk : k < 18 := hk
      exact yield_assign _ rfl ⟨hd.1 rfl rfl, next _ _ hW, Kept.refl _ _ _⟩
    refine ⟨fun k ρ u hk hc hf hb hW hd => ?_, ?_⟩
    · have hk : k < 18 := hk
      exact yield_assign _ rfl ⟨hd.1 rfl rfl, next _ _ hW, Kept.refl _ _ _⟩
    refine ⟨fun k ρ u hk hc hf hb hW hd => ?_, ?_⟩
    · have hk : k < 18 := hk
      exact yield_assign _ rfl ⟨hd.1 rfl rfl, next _ _ hW, Kept.refl _ _ _⟩
    trivial
  intro env w' hW hF
  obtain ⟨p', hp, hR, hG⟩ := hW
  replace hp : p' ≤ p2 + 2 * 18 := hp
  have y2 : (env 15) = .int .i64 m := hF 15 (of_decide_eq_true (by kernel_rfl))
  obtain ⟨x3, y3, l3, u3⟩ : IsI 2 1001 (env 16) := hF 16 (of_decide_eq_true (by kernel_rfl))
  obtain ⟨x4, y4, l4, u4⟩ : IsI 0 3000000 (env 17) := hF 17 (of_decide_eq_true (by kernel_rfl))
  clear hF next
  have hr : List.range 26 = [0, 1, 2, 3, 4, 5, 6, 7, 8, 9, 10, 11, 12, 13, 14, 15, 16, 17, 18, 19, 20, 21, 22, 23, 24, 25] := rfl
  unfold after
  simp only [List.size_toArray, List.length_cons, List.length_nil, Nat.reduceAdd, hr, List.map_cons, List.map_nil]
  simp [idxOf, List.findIdx?, List.findIdx?.go, y2, y3, y4]
  clear hr
  have B3 := B2.trans (hG.below (Nat.le_refl _) (Nat.le_refl _) B2.size)
  clear hG hR B2 R2
  go_wp2_with fail
  go_ret3
  exact ⟨m, x3, x4, rfl, m0, m1, l4, u4, B3⟩
end Go.Proofs.Ythbjbodkbpbbaaa
