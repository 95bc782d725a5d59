/- The contract of the draw of a signature with a key. -/
import Derived.Test.YthbjbodkbpbbaaaDrawSb
namespace Go.Proofs.Ythbjbodkbpbbaaa
open Go.RowKit
set_option linter.unusedVariables false
set_option linter.unusedSimpArgs false
/-- How worlds turn in a region that signs: what lies below N stays but for the reader's block; a block from N on that holds a short signature goes on holding one. -/
structure Soft (g N : Nat) (a b : World) : Prop where
  os : b.os = a.os
  tape : b.tape = a.tape
  output : b.output = a.output
  size : a.heap.size ≤ b.heap.size
  block : ∀ k, k < N → k ≠ g → b.heap[k]? = a.heap[k]?
  sig : ∀ B, N ≤ B → SigAt B a → SigAt B b
theorem Soft.refl (g N : Nat) (w : World) : Soft g N w w := ⟨rfl, rfl, rfl, Nat.le_refl _, fun _ _ _ => rfl, fun _ _ h => h⟩
theorem Soft.trans {g N : Nat} {a b c : World} (h : Soft g N a b) (h' : Soft g N b c) : Soft g N a c :=
  ⟨h'.os.trans h.os, h'.tape.trans h.tape, h'.output.trans h.output, Nat.le_trans h.size h'.size, fun k hk hg => (h'.block k hk hg).trans (h.block k hk hg), fun B hN hB => h'.sig B hN (h.sig B hN hB)⟩
theorem Soft.of {g N : Nat} {a b : World} (hg : g < N) (hN : N ≤ a.heap.size) (h : a.grownBy b (some g)) : Soft g N a b :=
  ⟨h.os, h.tape, h.output, h.size, fun k hk hne => h.block k (by omega) (fun e => hne (by injection e with e)), fun B hB hs => hs.grown h (fun e => by injection e with e; omega)⟩
theorem Soft.store {g N B : Nat} {a b : World} (hN : N ≤ a.heap.size) (hB : N ≤ B) (hs : SigAt B b) (h : a.grownBy b (some B)) : Soft g N a b :=
  ⟨h.os, h.tape, h.output, h.size, fun k hk _ => h.block k (by omega) (fun e => by injection e with e; omega), fun B' _ hs' => by
    by_cases e : B' = B
    · rw [e]; exact hs
    · exact hs'.grown h (fun e2 => e (by injection e2 with e2; exact e2.symm))⟩
def IsSig (v : Value) : Prop := ∃ (s : ByteArray) (m x q : Int), v = sigA s m x q ∧ s.size ≤ 200
def IsSigT (v : Value) : Prop := ∃ (s : ByteArray) (m x q : Int) (p : Bool), v = .tuple #[sigA s m x q, .bool p] ∧ s.size ≤ 200
def SigPtr (N : Nat) (v : Value) (w : World) : Prop := ∃ B, v = .pointer (some ⟨B, 0, none⟩) ∧ N ≤ B ∧ SigAt B w
theorem SigPtr.soft {g N : Nat} {v : Value} {a b : World} (h : SigPtr N v a) (hT : Soft g N a b) : SigPtr N v b := by
  obtain ⟨B, e, hB, hs⟩ := h
  exact ⟨B, e, hB, hT.sig B hB hs⟩

set_option maxHeartbeats 4000000 in
theorem drawSignedBy_any (A : Option Addr) (n c : Nat) (xs : List Int) (w : World) (h : Row .u8 w A n c xs) :
    Calls Try.prog 41 #[.slice A n c] w fun e' w' => ∃ (s : ByteArray) (m x q a b e : Int), e' = .returned (.tuple #[sigA s m x q, keyA a b e]) ∧ s.size ≤ 200 ∧ Below w.heap.size w w' := by
  have hb := h.byte
  have hr0 : ((w.alloc (.cells #[.string ⟨#[]⟩, .int .i64 0, .int .i64 0, .int .i64 0] 32)).alloc (.cells #[.int .i64 0, .int .i64 0, .int .i64 0] 36)).heap[w.heap.size]? = some (.cells #[.string ⟨#[]⟩, .int .i64 0, .int .i64 0, .int .i64 0] 32 (0, 0)) := alloc_old (alloc_new' rfl)
  have hk0 : ((w.alloc (.cells #[.string ⟨#[]⟩, .int .i64 0, .int .i64 0, .int .i64 0] 32)).alloc (.cells #[.int .i64 0, .int .i64 0, .int .i64 0] 36)).heap[w.heap.size + 1]? = some (.cells #[.int .i64 0, .int .i64 0, .int .i64 0] 36 (0, 0)) := alloc_new' (by simp)
  have b0 : Below w.heap.size w ((w.alloc (.cells #[.string ⟨#[]⟩, .int .i64 0, .int .i64 0, .int .i64 0] 32)).alloc (.cells #[.int .i64 0, .int .i64 0, .int .i64 0] 36)) := (((Ext.of.refl w).alloc _).alloc _).below
  have hz0 : ((w.alloc (.cells #[.string ⟨#[]⟩, .int .i64 0, .int .i64 0, .int .i64 0] 32)).alloc (.cells #[.int .i64 0, .int .i64 0, .int .i64 0] 36)).heap.size = w.heap.size + 2 := by simp
  go_enter Try.func41, Try.ntmps41
  go_wp2_with fail
  refine (open_any A n c xs _ ((h.sl.alloc _).alloc _) hb).mono ?_
  rintro e' w1 ⟨rfl, R1, B1⟩
  rw [hz0] at R1 B1
  have r1 := (B1.block w.heap.size (by omega)).trans hr0
  have k1 := (B1.block (w.heap.size + 1) (by omega)).trans hk0
  have T1 := b0.trans (B1.mono (by omega))
  clear B1 hr0 hk0 b0 h hb hz0
  go_wp2_with fail
  refine (drawSign_any (w.heap.size + 2) _ 9 _ R1 (by omega) (by omega) (by omega)).mono ?_
  rintro e' w2 ⟨a, b, e, rfl, p2, l1, l2, R2, G2⟩
  have r2 := rowAt r1 G2 (by omega)
  have k2 := rowAt k1 G2 (by omega)
  have T2 := T1.grown G2 T1.size (by rintro _ ⟨rfl⟩; omega)
  have hw2 := R2.lt
  clear R1 r1 k1 T1 G2
  have k3 : (w2.alloc (.cells #[.int .i64 a, .int .i64 b, .int .i64 e] 36)).heap[w2.heap.size]? = some (.cells #[.int .i64 a, .int .i64 b, .int .i64 e] 36 (0, 0)) := alloc_new' rfl
  have r3 := alloc_old (o := (.cells #[.int .i64 a, .int .i64 b, .int .i64 e] 36)) r2
  have c3 := alloc_old (o := (.cells #[.int .i64 a, .int .i64 b, .int .i64 e] 36)) k2
  have T3 := T2.alloc T2.size (.cells #[.int .i64 a, .int .i64 b, .int .i64 e] 36)
  have R3 := R2.alloc (.cells #[.int .i64 a, .int .i64 b, .int .i64 e] 36)
  clear r2 k2 T2 R2
  have HK := hid (And.intro k3 (And.intro r3 (And.intro c3 (And.intro T3 R3))))
  clear k3 r3 c3 T3 R3
  go_wp2_with fail
  obtain ⟨k3, r3, c3, T3, R3⟩ := HK.out
  clear HK
  revert k3 r3 c3 T3 R3
  generalize (w2.alloc (.cells #[.int .i64 a, .int .i64 b, .int .i64 e] 36)) = V
  intro k3 r3 c3 T3 R3
  have hkb : w.heap.size + 2 < w2.heap.size := by omega
  generalize w2.heap.size = kb at *
  clear hw2
  refine (pick_any (w.heap.size + 2) p2 3 _ R3 (by omega) (by omega) (by omega)).mono ?_
  rintro e' w4 ⟨q, rfl, q0, q1, R4, G4⟩
  have k4 := rowAt k3 G4 (by omega)
  have r4 := rowAt r3 G4 (by omega)
  have c4 := rowAt c3 G4 (by omega)
  have T4 := T3.grown G4 T3.size (by rintro _ ⟨rfl⟩; omega)
  clear R3 k3 r3 c3 T3 G4
  by_cases hq : 0 < q
  · have t0 : decide (0 < q) = true := by simpa using hq
    clear hq
    go_wp2_with fail
    have hgN : w.heap.size + 2 < w4.heap.size := R4.lt
    have hNV : w4.heap.size ≤ w4.heap.size := Nat.le_refl _
    have hkN := (Array.getElem?_eq_some_iff.1 k4).1
    have next : ∀ k w', (fun k w' => ∃ p', p' ≤ p2 + 1 + 20 * k ∧ Rd w' (w.heap.size + 2) p' ∧ Soft (w.heap.size + 2) w4.heap.size w4 w') k w' → (fun k w' => ∃ p', p' ≤ p2 + 1 + 20 * k ∧ Rd w' (w.heap.size + 2) p' ∧ Soft (w.heap.size + 2) w4.heap.size w4 w') (k + 1) w' := fun k w' ⟨p', hp, h⟩ => ⟨p', by omega, h⟩
    refine wp_region_steps (W := fun k w' => ∃ p', p' ≤ p2 + 1 + 20 * k ∧ Rd w' (w.heap.size + 2) p' ∧ Soft (w.heap.size + 2) w4.heap.size w4 w') (Tr := fun a b => Soft (w.heap.size + 2) w4.heap.size a b) (F := fun i v w' => match i with
        | 0 => v = keyA a b e
        | 1 => v = .pointer (some ⟨w.heap.size + 2, 0, none⟩)
        | 2 => IsS 200 v
        | 3 => IsSigT v
        | 4 => IsSigT v
        | 5 => IsSig v
        | 6 => IsB v
        | 7 => SigPtr w4.heap.size v w'
        | 9 => IsB v
        | _ => True) (by kernel_rfl) (by kernel_rfl) ?_ ?_ ?_ ?_
    · exact ⟨p2 + 1, by omega, R4.drewN 1, ⟨rfl, rfl, rfl, Nat.le_refl _, fun _ _ _ => rfl, fun _ _ h => h⟩⟩
    · intro k a b i v hW hT hF
      match i with
      | 0 => exact hF
      | 1 => exact hF
      | 2 => exact hF
      | 3 => exact hF
      | 4 => exact hF
      | 5 => exact hF
      | 6 => exact hF
      | 7 => exact SigPtr.soft hF hT
      | 8 => exact hF
      | 9 => exact hF
      | _ + 10 => trivial
    · refine ⟨fun k ρ u hk hc hf hb hW hd => ?_, ?_⟩
      · have hk : k < 10 := hk
        obtain ⟨p', hp, hR, hG⟩ := hW
        have hk4 := (hG.block _ hkN (by omega)).trans k4
        have e0 : ρ (.tmp 5) = .pointer (some ⟨kb, 0, none⟩) := hb 5 (by kernel_rfl)
        clear hd hb
        have x0 := cell_of_row u kb 0 _ _ _ hk4
        have x1 := cell_of_row u kb 1 _ _ _ hk4
        have x2 := cell_of_row u kb 2 _ _ _ hk4
        exact yield_value (w' := u) (keyA a b e) (by simp [go_sem, hc, hf, e0, x0, x1, x2]) ⟨rfl, ⟨p', by omega, hR, hG⟩, Soft.refl _ _ _⟩
      refine ⟨fun k ρ u hk hc hf hb hW hd => ?_, ?_⟩
      · have hk : k < 10 := hk
        exact yield_move _ rfl ⟨hb 4 (by kernel_rfl), next _ _ hW, Soft.refl _ _ _⟩
      refine ⟨fun k ρ u hk hc hf hb hW hd => ?_, ?_⟩
      · have hk : k < 10 := hk
        have e0 : (ρ (.tmp 17)) = .pointer (some ⟨w.heap.size + 2, 0, none⟩) := hd.1 rfl rfl
        obtain ⟨p', hp, hR, hG⟩ := hW
        have hz := hG.size
        clear hd hb
        refine yield_call 62 #[.pointer (some ⟨w.heap.size + 2, 0, none⟩), .int .i64 0] (by simp [go_sem, hc, hf, e0]) ?_
        refine (text_any _ _ _ _ hR (by omega) (by omega) (by omega)).mono ?_
        rintro e' w3 ⟨s, rfl, hs, p3, l3, l4, R3, G3⟩
        have hS := Soft.of hgN (Nat.le_trans hNV hz) G3
        exact ⟨_, rfl, ⟨s, rfl, hs⟩, ⟨p3, by omega, R3, hG.trans hS⟩, hS⟩
      refine ⟨fun k ρ u hk hc hf hb hW hd => ?_, ?_⟩
      · have hk : k < 10 := hk
        have e0 : ρ (.tmp 16) = keyA a b e := hd.1 rfl rfl
        obtain ⟨s, e1, hs⟩ : IsS 200 (ρ (.tmp 18)) := hd.2.1 rfl rfl
        obtain ⟨p', hp, hR, hG⟩ := hW
        have hz := hG.size
        clear hd hb
        refine yield_call 33 #[keyA a b e, .string s] (by simp [go_sem, hc, hf, e0, e1]) ?_
        have hss := sgV_size a b e s
        refine (sgnS_any a b e s _ (by omega)).mono ?_
        rintro e' w3 ⟨rfl, b3⟩
        have G3 := grown_of_below b3 (some (w.heap.size + 2))
        have hS := Soft.of hgN (Nat.le_trans hNV hz) G3
        exact ⟨_, rfl, ⟨_, _, _, _, _, rfl, by omega⟩, ⟨p', by omega, hR.below b3, hG.trans hS⟩, hS⟩
      refine ⟨fun k ρ u hk hc hf hb hW hd => ?_, ?_⟩
      · have hk : k < 10 := hk
        exact yield_move _ rfl ⟨hd.1 rfl rfl, next _ _ hW, Soft.refl _ _ _⟩
      refine ⟨fun k ρ u hk hc hf hb hW hd => ?_, ?_⟩
      · have hk : k < 10 := hk
        obtain ⟨s, m, x, q, pp, e0, hs⟩ : IsSigT (ρ (.tmp 15)) := hd.1 rfl rfl
        clear hd hb
        exact yield_value (w' := u) (sigA s m x q) (by simp [go_sem, hc, hf, e0]) ⟨⟨_, _, _, _, rfl, hs⟩, next _ _ hW, Soft.refl _ _ _⟩
      refine ⟨fun k ρ u hk hc hf hb hW hd => ?_, ?_⟩
      · have hk : k < 10 := hk
        obtain ⟨s, m, x, q, pp, e0, hs⟩ : IsSigT (ρ (.tmp 15)) := hd.1 rfl rfl
        clear hd hb
        exact yield_value (w' := u) (.bool pp) (by simp [go_sem, hc, hf, e0]) ⟨⟨_, rfl⟩, next _ _ hW, Soft.refl _ _ _⟩
      refine ⟨fun k ρ u hk hc hf hb hW hd => ?_, ?_⟩
      · have hk : k < 10 := hk
        obtain ⟨p', hp, hR, hG⟩ := hW
        have hz := hG.size
        clear hd hb
        have hS : Soft (w.heap.size + 2) w4.heap.size u (u.alloc (.cells #[.string ⟨#[]⟩, .int .i64 0, .int .i64 0, .int .i64 0] 32)) := Soft.of hgN (Nat.le_trans hNV hz) (World.grownBy_alloc _ _ _)
        refine yield_value (w' := u.alloc (.cells #[.string ⟨#[]⟩, .int .i64 0, .int .i64 0, .int .i64 0] 32)) (.pointer (some ⟨u.heap.size, 0, none⟩)) ?_ ⟨⟨u.heap.size, rfl, Nat.le_trans hNV hz, _, _, _, _, alloc_new' rfl, by decide⟩, ⟨p', by omega, hR.alloc _, hG.trans hS⟩, hS⟩
        simp [go_sem, hc, hf]
      refine ⟨fun k ρ u hk hc hf hb hW hd => ?_, ?_⟩
      · have hk : k < 10 := hk
        obtain ⟨B, e0, hB, s', m', x', q', hX, _⟩ : SigPtr w4.heap.size (ρ (.tmp 6)) u := hd.1 rfl rfl
        obtain ⟨s, m, x, q, e1, hs⟩ : IsSig (ρ (.tmp 20)) := hd.2.1 rfl rfl
        obtain ⟨p', hp, hR, hG⟩ := hW
        have hz := hG.size
        have f0 := frozen_of_row u B 0 _ _ hX
        have f1 := frozen_of_row u B 1 _ _ hX
        have f2 := frozen_of_row u B 2 _ _ hX
        have f3 := frozen_of_row u B 3 _ _ hX
        have z0 := cell_of_row u B 0 _ _ _ hX
        have z1 := cell_of_row u B 1 _ _ _ hX
        have z2 := cell_of_row u B 2 _ _ _ hX
        have z3 := cell_of_row u B 3 _ _ _ hX
        have ks := row4 (a := .string s) (b := .int .i64 m) (c := .int .i64 x) (d := .int .i64 q) hX
        have hS : Soft (w.heap.size + 2) w4.heap.size u _ := Soft.store (Nat.le_trans hNV hz) hB ⟨_, _, _, _, ks.1, hs⟩ ks.2
        clear hd hb
        unfold Yield
        simp [go_sem, hc, hf, e0, e1, f0, f1, f2, f3, z0, z1, z2, z3]
        exact ⟨⟨p', by omega, hR.grown ks.2 (by rintro _ ⟨rfl⟩; omega), hG.trans hS⟩, hS⟩
      refine ⟨fun k ρ u hk hc hf hb hW hd => ?_, ?_⟩
      · have hk : k < 10 := hk
        exact yield_assign _ rfl ⟨hd.1 rfl rfl, next _ _ hW, Soft.refl _ _ _⟩
      trivial
    intro env w5 hW hF
    obtain ⟨p', hp, hR, hG⟩ := hW
    obtain ⟨B6, y7, hB6, hs6⟩ : SigPtr w4.heap.size (env 7) w5 := hF 7 (of_decide_eq_true (by kernel_rfl))
    obtain ⟨pb, y9⟩ : IsB (env 9) := hF 9 (of_decide_eq_true (by kernel_rfl))
    have k5 := (hG.block _ hkN (by omega)).trans k4
    have r5 := (hG.block _ (Array.getElem?_eq_some_iff.1 r4).1 (by omega)).trans r4
    have c5 := (hG.block _ (Array.getElem?_eq_some_iff.1 c4).1 (by omega)).trans c4
    have T5 : Below w.heap.size w w5 := T4.trans ⟨hG.os, hG.tape, hG.output, hG.size, fun k hk => hG.block k (by have := T4.size; omega) (by omega)⟩
    clear hF next
    have hr : List.range 27 = [0, 1, 2, 3, 4, 5, 6, 7, 8, 9, 10, 11, 12, 13, 14, 15, 16, 17, 18, 19, 20, 21, 22, 23, 24, 25, 26] := rfl
    unfold after
    simp only [List.size_toArray, List.length_cons, List.length_nil, Nat.reduceAdd, hr, List.map_cons, List.map_nil]
    simp [idxOf, List.findIdx?, List.findIdx?.go, y7, y9]
    clear hr
    go_wp2_with fail
    have hz5 := hG.size
    have next : ∀ k w', (fun k w' => ∃ p', p' ≤ 20 * k ∧ Below w.heap.size w w' ∧ SigAt w.heap.size w' ∧ KeyAt (w.heap.size + 1) 36 w' ∧ SigAt B6 w' ∧ w'.heap[kb]? = some (.cells #[.int .i64 a, .int .i64 b, .int .i64 e] 36 (0, 0))) k w' → (fun k w' => ∃ p', p' ≤ 20 * k ∧ Below w.heap.size w w' ∧ SigAt w.heap.size w' ∧ KeyAt (w.heap.size + 1) 36 w' ∧ SigAt B6 w' ∧ w'.heap[kb]? = some (.cells #[.int .i64 a, .int .i64 b, .int .i64 e] 36 (0, 0))) (k + 1) w' := fun k w' ⟨p', hp, h⟩ => ⟨p', by omega, h⟩
    refine wp_region_steps (W := fun k w' => ∃ p', p' ≤ 20 * k ∧ Below w.heap.size w w' ∧ SigAt w.heap.size w' ∧ KeyAt (w.heap.size + 1) 36 w' ∧ SigAt B6 w' ∧ w'.heap[kb]? = some (.cells #[.int .i64 a, .int .i64 b, .int .i64 e] 36 (0, 0))) (Tr := fun _ _ => True) (F := fun i v w' => match i with
        | 0 => IsSig v
        | 1 => v = keyA a b e
        | _ => True) (by kernel_rfl) (by kernel_rfl) ?_ ?_ ?_ ?_
    · exact ⟨0, by omega, ⟨T5.os, T5.tape, T5.output, T5.size, T5.block⟩, ⟨_, _, _, _, r5, by decide⟩, ⟨_, _, _, c5⟩, hs6, k5⟩
    · intro k a b i v hW hT hF
      match i with
      | 0 => exact hF
      | 1 => exact hF
      | 2 => exact hF
      | 3 => exact hF
      | _ + 4 => trivial
    · refine ⟨fun k ρ u hk hc hf hb hW hd => ?_, ?_⟩
      · have hk : k < 4 := hk
        have e0 : ρ (.tmp 6) = .pointer (some ⟨B6, 0, none⟩) := hb 6 (by kernel_rfl)
        have hW' := next _ _ hW
        obtain ⟨p', hp, hT, hS, hK, ⟨s, m, x, q, hX, hs⟩, hk⟩ := hW
        clear hd hb
        have x0 := cell_of_row u B6 0 _ _ _ hX
        have x1 := cell_of_row u B6 1 _ _ _ hX
        have x2 := cell_of_row u B6 2 _ _ _ hX
        have x3 := cell_of_row u B6 3 _ _ _ hX
        exact yield_value (w' := u) (sigA s m x q) (by simp [go_sem, hc, hf, e0, x0, x1, x2, x3]) ⟨⟨_, _, _, _, rfl, hs⟩, hW', trivial⟩
      refine ⟨fun k ρ u hk hc hf hb hW hd => ?_, ?_⟩
      · have hk : k < 4 := hk
        have e0 : ρ (.tmp 5) = .pointer (some ⟨kb, 0, none⟩) := hb 5 (by kernel_rfl)
        have hW' := next _ _ hW
        obtain ⟨p', hp, hT, hS, hK, hS6, hk⟩ := hW
        clear hd hb
        have x0 := cell_of_row u kb 0 _ _ _ hk
        have x1 := cell_of_row u kb 1 _ _ _ hk
        have x2 := cell_of_row u kb 2 _ _ _ hk
        exact yield_value (w' := u) (keyA a b e) (by simp [go_sem, hc, hf, e0, x0, x1, x2]) ⟨rfl, hW', trivial⟩
      refine ⟨fun k ρ u hk hc hf hb hW hd => ?_, ?_⟩
      · have hk : k < 4 := hk
        have e0 : ρ (.tmp 2) = .pointer (some ⟨w.heap.size, 0, none⟩) := hb 2 (by kernel_rfl)
        obtain ⟨s, m, x, q, e1, hs⟩ : IsSig (ρ (.tmp 22)) := hd.1 rfl rfl
        obtain ⟨p', hp, hT, ⟨s', m', x', q', hX, _⟩, hK, hS6, hk⟩ := hW
        have f0 := frozen_of_row u (w.heap.size) 0 _ _ hX
        have f1 := frozen_of_row u (w.heap.size) 1 _ _ hX
        have f2 := frozen_of_row u (w.heap.size) 2 _ _ hX
        have f3 := frozen_of_row u (w.heap.size) 3 _ _ hX
        have z0 := cell_of_row u (w.heap.size) 0 _ _ _ hX
        have z1 := cell_of_row u (w.heap.size) 1 _ _ _ hX
        have z2 := cell_of_row u (w.heap.size) 2 _ _ _ hX
        have z3 := cell_of_row u (w.heap.size) 3 _ _ _ hX
        have ks := row4 (a := .string s) (b := .int .i64 m) (c := .int .i64 x) (d := .int .i64 q) hX
        clear hd hb
        unfold Yield
        simp [go_sem, hc, hf, e0, e1, f0, f1, f2, f3, z0, z1, z2, z3]
        exact ⟨⟨p', by omega⟩, hT.grown ks.2 hT.size (by rintro _ ⟨rfl⟩; omega), ⟨_, _, _, _, ks.1, hs⟩, hK.grown ks.2 (fun e => by injection e with e; omega), hS6.grown ks.2 (fun e => by injection e with e; omega), (ks.2.block _ (Array.getElem?_eq_some_iff.1 hk).1 (fun e => by injection e with e; omega)).trans hk⟩
      refine ⟨fun k ρ u hk hc hf hb hW hd => ?_, ?_⟩
      · have hk : k < 4 := hk
        have e0 : ρ (.tmp 3) = .pointer (some ⟨w.heap.size + 1, 0, none⟩) := hb 3 (by kernel_rfl)
        have e1 : ρ (.tmp 23) = keyA a b e := hd.1 rfl rfl
        obtain ⟨p', hp, hT, hS, ⟨a', b', e', hX⟩, hS6, hk⟩ := hW
        have f0 := frozen_of_row u (w.heap.size + 1) 0 _ _ hX
        have f1 := frozen_of_row u (w.heap.size + 1) 1 _ _ hX
        have f2 := frozen_of_row u (w.heap.size + 1) 2 _ _ hX
        have z0 := cell_of_row u (w.heap.size + 1) 0 _ _ _ hX
        have z1 := cell_of_row u (w.heap.size + 1) 1 _ _ _ hX
        have z2 := cell_of_row u (w.heap.size + 1) 2 _ _ _ hX
        have ks := key_stored (a := .int .i64 a) (b := .int .i64 b) (e := .int .i64 e) hX 0
        clear hd hb
        unfold Yield
        simp [go_sem, hc, hf, e0, e1, f0, f1, f2, z0, z1, z2]
        exact ⟨⟨p', by omega⟩, hT.grown ks.2 hT.size (by rintro _ ⟨rfl⟩; omega), hS.grown ks.2 (fun e => by injection e with e; omega), ⟨_, _, _, ks.1⟩, hS6.grown ks.2 (fun e => by injection e with e; omega), (ks.2.block _ (Array.getElem?_eq_some_iff.1 hk).1 (fun e => by injection e with e; omega)).trans hk⟩
      trivial
    intro env w6 hW hF
    obtain ⟨_, _, T6, ⟨s, m, x, q, hX, hs⟩, ⟨a', b', e', hY⟩, _, _⟩ := hW
    clear hF next
    have hr : List.range 27 = [0, 1, 2, 3, 4, 5, 6, 7, 8, 9, 10, 11, 12, 13, 14, 15, 16, 17, 18, 19, 20, 21, 22, 23, 24, 25, 26] := rfl
    unfold after
    simp only [List.size_toArray, List.length_cons, List.length_nil, Nat.reduceAdd, hr, List.map_cons, List.map_nil]
    simp [idxOf, List.findIdx?, List.findIdx?.go]
    clear hr
    have v0 := cell_of_row w6 w.heap.size 0 _ _ _ hX
    have v1 := cell_of_row w6 w.heap.size 1 _ _ _ hX
    have v2 := cell_of_row w6 w.heap.size 2 _ _ _ hX
    have v3 := cell_of_row w6 w.heap.size 3 _ _ _ hX
    have u0 := cell_of_row w6 (w.heap.size + 1) 0 _ _ _ hY
    have u1 := cell_of_row w6 (w.heap.size + 1) 1 _ _ _ hY
    have u2 := cell_of_row w6 (w.heap.size + 1) 2 _ _ _ hY
    go_wp2
    exact bodyPost_ret (v := .tuple #[sigA s m x q, keyA a' b' e']) (by simp [results, Try.results41, go_sem, v0, v1, v2, v3, u0, u1, u2]) rfl ⟨_, _, _, _, _, _, _, rfl, hs, T6⟩
  · have t0 : decide (0 < q) = false := by simpa using hq
    clear hq
    go_wp2_with fail
    have next : ∀ k w', (fun k w' => ∃ p', p' ≤ p2 + 1 + 200 * k ∧ Rd w' (w.heap.size + 2) p' ∧ Below w.heap.size w w' ∧ SigAt w.heap.size w' ∧ KeyAt (w.heap.size + 1) 36 w' ∧ w'.heap[kb]? = some (.cells #[.int .i64 a, .int .i64 b, .int .i64 e] 36 (0, 0))) k w' → (fun k w' => ∃ p', p' ≤ p2 + 1 + 200 * k ∧ Rd w' (w.heap.size + 2) p' ∧ Below w.heap.size w w' ∧ SigAt w.heap.size w' ∧ KeyAt (w.heap.size + 1) 36 w' ∧ w'.heap[kb]? = some (.cells #[.int .i64 a, .int .i64 b, .int .i64 e] 36 (0, 0))) (k + 1) w' := fun k w' ⟨p', hp, h⟩ => ⟨p', by omega, h⟩
    refine wp_region_steps (W := fun k w' => ∃ p', p' ≤ p2 + 1 + 200 * k ∧ Rd w' (w.heap.size + 2) p' ∧ Below w.heap.size w w' ∧ SigAt w.heap.size w' ∧ KeyAt (w.heap.size + 1) 36 w' ∧ w'.heap[kb]? = some (.cells #[.int .i64 a, .int .i64 b, .int .i64 e] 36 (0, 0))) (Tr := fun _ _ => True) (F := fun i v w' => match i with
        | 0 => v = .pointer (some ⟨w.heap.size + 2, 0, none⟩)
        | 1 => IsSig v
        | 2 => v = keyA a b e
        | _ => True) (by kernel_rfl) (by kernel_rfl) ?_ ?_ ?_ ?_
    · exact ⟨p2 + 1, by omega, R4.drewN 1, ⟨T4.os, T4.tape, T4.output, T4.size, T4.block⟩, ⟨_, _, _, _, r4, by decide⟩, ⟨_, _, _, c4⟩, k4⟩
    · intro k a b i v hW hT hF
      match i with
      | 0 => exact hF
      | 1 => exact hF
      | 2 => exact hF
      | 3 => exact hF
      | 4 => exact hF
      | _ + 5 => trivial
    · refine ⟨fun k ρ u hk hc hf hb hW hd => ?_, ?_⟩
      · have hk : k < 5 := hk
        exact yield_move _ rfl ⟨hb 4 (by kernel_rfl), next _ _ hW, trivial⟩
      refine ⟨fun k ρ u hk hc hf hb hW hd => ?_, ?_⟩
      · have hk : k < 5 := hk
        have e0 : (ρ (.tmp 24)) = .pointer (some ⟨w.heap.size + 2, 0, none⟩) := hd.1 rfl rfl
        obtain ⟨p', hp, hR, hT, hS, hK, hk⟩ := hW
        clear hd hb
        refine yield_call 60 #[.pointer (some ⟨w.heap.size + 2, 0, none⟩)] (by simp [go_sem, hc, hf, e0]) ?_
        refine (signed_any _ _ _ hR (by omega)).mono ?_
        rintro e' w3 ⟨s, m, x, q, rfl, hs, p3, l3, l4, R3, G3⟩
        exact ⟨_, rfl, ⟨s, m, x, q, rfl, hs⟩, ⟨p3, by omega, R3, hT.grown G3 hT.size (by rintro _ ⟨rfl⟩; omega), hS.grown G3 (fun e => by injection e with e; omega), hK.grown G3 (fun e => by injection e with e; omega), rowAt hk G3 (by omega)⟩, trivial⟩
      refine ⟨fun k ρ u hk hc hf hb hW hd => ?_, ?_⟩
      · have hk : k < 5 := hk
        have e0 : ρ (.tmp 5) = .pointer (some ⟨kb, 0, none⟩) := hb 5 (by kernel_rfl)
        have hW' := next _ _ hW
        obtain ⟨p', hp, hR, hT, hS, hK, hk⟩ := hW
        clear hd hb
        have x0 := cell_of_row u kb 0 _ _ _ hk
        have x1 := cell_of_row u kb 1 _ _ _ hk
        have x2 := cell_of_row u kb 2 _ _ _ hk
        exact yield_value (w' := u) (keyA a b e) (by simp [go_sem, hc, hf, e0, x0, x1, x2]) ⟨rfl, hW', trivial⟩
      refine ⟨fun k ρ u hk hc hf hb hW hd => ?_, ?_⟩
      · have hk : k < 5 := hk
        have e0 : ρ (.tmp 2) = .pointer (some ⟨w.heap.size, 0, none⟩) := hb 2 (by kernel_rfl)
        obtain ⟨s, m, x, q, e1, hs⟩ : IsSig (ρ (.tmp 25)) := hd.1 rfl rfl
        obtain ⟨p', hp, hR, hT, ⟨s', m', x', q', hX, _⟩, hK, hk⟩ := hW
        have f0 := frozen_of_row u (w.heap.size) 0 _ _ hX
        have f1 := frozen_of_row u (w.heap.size) 1 _ _ hX
        have f2 := frozen_of_row u (w.heap.size) 2 _ _ hX
        have f3 := frozen_of_row u (w.heap.size) 3 _ _ hX
        have z0 := cell_of_row u (w.heap.size) 0 _ _ _ hX
        have z1 := cell_of_row u (w.heap.size) 1 _ _ _ hX
        have z2 := cell_of_row u (w.heap.size) 2 _ _ _ hX
        have z3 := cell_of_row u (w.heap.size) 3 _ _ _ hX
        have ks := row4 (a := .string s) (b := .int .i64 m) (c := .int .i64 x) (d := .int .i64 q) hX
        have hR2 := rd_sig (s' := s) (m' := m) (x' := x) (q' := q) hR hX (by omega)
        clear hd hb
        unfold Yield
        simp [go_sem, hc, hf, e0, e1, f0, f1, f2, f3, z0, z1, z2, z3]
        exact ⟨p', by omega, hR2, hT.grown ks.2 hT.size (by rintro _ ⟨rfl⟩; omega), ⟨_, _, _, _, ks.1, hs⟩, hK.grown ks.2 (fun e => by injection e with e; omega), (ks.2.block _ (Array.getElem?_eq_some_iff.1 hk).1 (fun e => by injection e with e; omega)).trans hk⟩
      refine ⟨fun k ρ u hk hc hf hb hW hd => ?_, ?_⟩
      · have hk : k < 5 := hk
        have e0 : ρ (.tmp 3) = .pointer (some ⟨w.heap.size + 1, 0, none⟩) := hb 3 (by kernel_rfl)
        have e1 : ρ (.tmp 26) = keyA a b e := hd.1 rfl rfl
        obtain ⟨p', hp, hR, hT, hS, ⟨a', b', e', hX⟩, hk⟩ := hW
        have f0 := frozen_of_row u (w.heap.size + 1) 0 _ _ hX
        have f1 := frozen_of_row u (w.heap.size + 1) 1 _ _ hX
        have f2 := frozen_of_row u (w.heap.size + 1) 2 _ _ hX
        have z0 := cell_of_row u (w.heap.size + 1) 0 _ _ _ hX
        have z1 := cell_of_row u (w.heap.size + 1) 1 _ _ _ hX
        have z2 := cell_of_row u (w.heap.size + 1) 2 _ _ _ hX
        have ks := key_stored (a := .int .i64 a) (b := .int .i64 b) (e := .int .i64 e) hX 0
        have hR2 := rd_key (a := a) (b := b) (e := e) hR hX (by omega)
        clear hd hb
        unfold Yield
        simp [go_sem, hc, hf, e0, e1, f0, f1, f2, z0, z1, z2]
        exact ⟨p', by omega, hR2, hT.grown ks.2 hT.size (by rintro _ ⟨rfl⟩; omega), hS.grown ks.2 (fun e => by injection e with e; omega), ⟨_, _, _, ks.1⟩, (ks.2.block _ (Array.getElem?_eq_some_iff.1 hk).1 (fun e => by injection e with e; omega)).trans hk⟩
      trivial
    intro env w6 hW hF
    obtain ⟨_, _, _, T6, ⟨s, m, x, q, hX, hs⟩, ⟨a', b', e', hY⟩, _⟩ := hW
    clear hF next
    have hr : List.range 27 = [0, 1, 2, 3, 4, 5, 6, 7, 8, 9, 10, 11, 12, 13, 14, 15, 16, 17, 18, 19, 20, 21, 22, 23, 24, 25, 26] := rfl
    unfold after
    simp only [List.size_toArray, List.length_cons, List.length_nil, Nat.reduceAdd, hr, List.map_cons, List.map_nil]
    simp [idxOf, List.findIdx?, List.findIdx?.go]
    clear hr
    have v0 := cell_of_row w6 w.heap.size 0 _ _ _ hX
    have v1 := cell_of_row w6 w.heap.size 1 _ _ _ hX
    have v2 := cell_of_row w6 w.heap.size 2 _ _ _ hX
    have v3 := cell_of_row w6 w.heap.size 3 _ _ _ hX
    have u0 := cell_of_row w6 (w.heap.size + 1) 0 _ _ _ hY
    have u1 := cell_of_row w6 (w.heap.size + 1) 1 _ _ _ hY
    have u2 := cell_of_row w6 (w.heap.size + 1) 2 _ _ _ hY
    go_wp2
    exact bodyPost_ret (v := .tuple #[sigA s m x q, keyA a' b' e']) (by simp [results, Try.results41, go_sem, v0, v1, v2, v3, u0, u1, u2]) rfl ⟨_, _, _, _, _, _, _, rfl, hs, T6⟩
end Go.Proofs.Ythbjbodkbpbbaaa
