/- The contract of the draw of a list of activities and a key. -/
import Derived.Test.YtlfjnaeepblhiaaDrawAcs
namespace Go.Proofs.Ytlfjnaeepblhiaa
open Go.RowKit
set_option linter.unusedVariables false
set_option linter.unusedSimpArgs false
set_option maxRecDepth 4000 in
set_option maxHeartbeats 1000000 in
theorem drawLast_any (A : Option Addr) (n c : Nat) (xs : List Int) (w : World) (h : Row .u8 w A n c xs) :
    Calls Try.prog 9 #[.slice A n c] w fun e w' => ∃ B k d ys s, e = .returned (.tuple #[.slice B k d, .string s]) ∧ w'.ownsRow w.heap.size 29 5 (.slice B k d) k (acs ys) ∧ acOk ys ∧ k ≤ 31 ∧ s.size ≤ 200 ∧ Below w.heap.size w w' := by
  go_enter Try.func9, Try.ntmps9
  go_wp2_with fail
  refine (open_any A n c xs w h.sl h.byte).mono ?_
  rintro e w1 ⟨rfl, R1, B1⟩
  go_wp2_with fail
  refine (activities_any _ _ 9 _ R1 (by omega) (by omega) (by omega)).mono ?_
  rintro e w2 ⟨B, k, d, ys, rfl, O, hok, hk, p2, l1, l2, R2, G2⟩
  have B2 := B1.grown G2 B1.size (by rintro _ ⟨rfl⟩; exact Nat.le_refl _)
  have hb1 : w.heap.size < w1.heap.size := R1.lt
  have HOK := hid hok
  clear R1 B1 G2 hok
  go_wp2_with fail
  have next : ∀ k w', (fun k w' => ∃ p', p' ≤ p2 + 2 * k ∧ Rd w' w.heap.size p' ∧ Kept w.heap.size w.heap.size w2 w') k w' → (fun k w' => ∃ p', p' ≤ p2 + 2 * k ∧ Rd w' w.heap.size p' ∧ Kept w.heap.size w.heap.size w2 w') (k + 1) w' := fun k w' ⟨p', hp, h⟩ => ⟨p', by omega, h⟩
  refine wp_region_steps (W := fun k w' => ∃ p', p' ≤ p2 + 2 * k ∧ Rd w' w.heap.size p' ∧ Kept w.heap.size w.heap.size w2 w') (Tr := fun a b => Kept w.heap.size w.heap.size a b) (F := fun i v w' => match i with
      | 0 => v = .slice B k d
      | 1 => IsLit w.heap.size w.heap.size 3 (IsS 200) 9 v w'
      | 2 => v = .pointer (some ⟨w.heap.size, 0, none⟩)
      | 3 => IsI 0 2 v
      | 4 => IsAt w.heap.size w.heap.size (IsS 200) v w'
      | 5 => IsS 200 v
      | 6 => v = .slice B k d
      | 7 => IsS 200 v
      | _ => True) (by kernel_rfl) (by kernel_rfl) ?_ ?_ ?_ ?_
  · exact ⟨p2, by omega, R2.drewN 1, Kept.drew _ _ _⟩
  · intro k a b i v hW hT hF
    match i with
    | 0 => exact hF
    | 1 => exact IsLit.kept hF hT
    | 2 => exact hF
    | 3 => exact hF
    | 4 => exact IsAt.kept hF hT
    | 5 => exact hF
    | 6 => exact hF
    | 7 => exact hF
    | _ + 8 => trivial
  · refine ⟨fun k ρ u hk hc hf hb hW hd => ?_, ?_⟩
    · have hk : k < 8 := hk
      exact yield_move _ rfl ⟨hb 5 (by kernel_rfl), next _ _ hW, Kept.refl _ _ _⟩
    refine ⟨fun k ρ u hk hc hf hb hW hd => ?_, ?_⟩
    · have hk : k < 8 := hk
      obtain ⟨p', hp, hR, hG⟩ := hW
      have hz := hR.lt
      clear hd hb
      refine yield_value (w' := u.alloc (.cells #[Value.string { data := #[107, 49] }, Value.string { data := #[107, 50] }, Value.string { data := #[110, 111, 110, 101] }] 9)) (.slice (some ⟨u.heap.size, 0, none⟩) 3 3) (by simp [go_sem, hc, hf]) ⟨⟨u.heap.size, [Value.string { data := #[107, 49] }, Value.string { data := #[107, 50] }, Value.string { data := #[110, 111, 110, 101] }], rfl, by omega, by omega, alloc_new rfl, rfl, ?_⟩, ⟨p', by omega, hR.alloc _, hG.trans (Kept.alloc _ _ _ _)⟩, Kept.alloc _ _ _ _⟩
      simp only [List.forall_mem_cons]
      exact ⟨⟨_, rfl, by first | decide | omega⟩, ⟨_, rfl, by first | decide | omega⟩, ⟨_, rfl, by first | decide | omega⟩, fun _ h => by cases h⟩
    refine ⟨fun k ρ u hk hc hf hb hW hd => ?_, ?_⟩
    · have hk : k < 8 := hk
      exact yield_move _ rfl ⟨hb 4 (by kernel_rfl), next _ _ hW, Kept.refl _ _ _⟩
    refine ⟨fun k ρ u hk hc hf hb hW hd => ?_, ?_⟩
    · have hk : k < 8 := hk
      have e0 : (ρ (.tmp 12)) = .pointer (some ⟨w.heap.size, 0, none⟩) := hd.1 rfl rfl
      obtain ⟨p', hp, hR, hG⟩ := hW
      clear hd hb
      refine yield_call 44 #[.pointer (some ⟨w.heap.size, 0, none⟩), .int .i64 3] (by simp [go_sem, hc, hf, e0]) ?_
      refine (pick_any _ _ _ _ hR (by omega) (by omega) (by omega) ).mono ?_
      rintro e w3 ⟨q, rfl, q0, q1, R3, G3⟩
      exact ⟨_, rfl, ⟨q, rfl, q0, by omega⟩, ⟨p' + 1, by omega, R3, hG.trans (.of G3)⟩, .of G3⟩
    refine ⟨fun k ρ u hk hc hf hb hW hd => ?_, ?_⟩
    · have hk : k < 8 := hk
      have e0 : IsLit w.heap.size w.heap.size 3 (IsS 200) 9 (ρ (.tmp 11)) u := hd.1 rfl rfl
      obtain ⟨q1, e1, l1, u1⟩ : IsI 0 2 (ρ (.tmp 13)) := hd.2.1 rfl rfl
      clear hd hb
      obtain ⟨B, eB, hA⟩ := IsLit.at e0 (q := q1) (by omega) (by omega)
      clear e0
      exact yield_value (w' := u) _ (by simp [go_sem, hc, hf, eB, e1, IntWalk.i64_in, show q1 < 3 by omega, l1]) ⟨hA, next _ _ hW, Kept.refl _ _ _⟩
    refine ⟨fun k ρ u hk hc hf hb hW hd => ?_, ?_⟩
    · have hk : k < 8 := hk
      have e0 : IsAt w.heap.size w.heap.size (IsS 200) (ρ (.tmp 14)) u := hd.1 rfl rfl
      obtain ⟨B, j, x, eB, _, _, hx, hq⟩ := e0
      clear hd hb
      obtain ⟨q, rfl, hq⟩ := hq
      exact yield_value (w' := u) _ (by simp [go_sem, hc, hf, eB, hx]) ⟨⟨q, rfl, hq⟩, next _ _ hW, Kept.refl _ _ _⟩
    refine ⟨fun k ρ u hk hc hf hb hW hd => ?_, ?_⟩
    · have hk : k < 8 := hk
      exact yield_assign _ rfl ⟨hd.1 rfl rfl, next _ _ hW, Kept.refl _ _ _⟩
    refine ⟨fun k ρ u hk hc hf hb hW hd => ?_, ?_⟩
    · have hk : k < 8 := hk
      exact yield_assign _ rfl ⟨hd.1 rfl rfl, next _ _ hW, Kept.refl _ _ _⟩
    trivial
  intro env w' hW hF
  obtain ⟨p', hp, hR, hG⟩ := hW
  replace hp : p' ≤ p2 + 2 * 8 := hp
  have y2 : (env 6) = .slice B k d := hF 6 (of_decide_eq_true (by kernel_rfl))
  obtain ⟨x3, y3, l3⟩ : IsS 200 (env 7) := hF 7 (of_decide_eq_true (by kernel_rfl))
  clear hF next
  have hr : List.range 16 = [0, 1, 2, 3, 4, 5, 6, 7, 8, 9, 10, 11, 12, 13, 14, 15] := rfl
  unfold after
  simp only [List.size_toArray, List.length_cons, List.length_nil, Nat.reduceAdd, hr, List.map_cons, List.map_nil]
  simp [idxOf, List.findIdx?, List.findIdx?.go, y2, y3]
  clear hr
  have G3 : w2.grownBy w' (some w.heap.size) := ⟨hG.os, hG.tape, hG.output, hG.size, fun q hq hne => hG.block q hq (fun e => hne (by rw [e])) (fun e => hne (by rw [e]))⟩
  have O3 := O.kept G3 (by right; intro e; have := (O.lt _ e).1; omega)
  have B3 := B2.grown G3 B2.size (by rintro _ ⟨rfl⟩; exact Nat.le_refl _)
  go_wp2
  exact bodyPost_ret (v := .tuple #[.slice B k d, .string x3]) (by simp [results, Try.results9, go_sem]) rfl ⟨B, k, d, ys, x3, rfl, own_lower O3 (by omega), HOK.out, hk, l3, B3⟩
end Go.Proofs.Ytlfjnaeepblhiaa
