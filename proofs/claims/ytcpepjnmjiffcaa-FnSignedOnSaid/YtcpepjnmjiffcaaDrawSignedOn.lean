/- The contract of the draw of rotations, a signature and a day. -/
import Derived.Test.YtcpepjnmjiffcaaDrawTurn
import Derived.Test.YtcpepjnmjiffcaaDrawSb
namespace Go.Proofs.Ytcpepjnmjiffcaa
open Go.RowKit
set_option linter.unusedVariables false
set_option linter.unusedSimpArgs false
/-- How worlds turn in a region that signs: what lies below N stays but for the reader's block; a block from N on that holds a short signature goes on holding one. -/
structure Soft (g N : Nat) (a b : World) : Prop where
  os : b.os = a.os
  tape : b.tape = a.tape
  output : b.output = a.output
  size : a.heap.size ≤ b.heap.size
  block : ∀ k, k < N → k ≠ g → b.heap[k]? = a.heap[k]?
  sig : ∀ B, N ≤ B → SigAt B a → SigAt B b
theorem Soft.refl (g N : Nat) (w : World) : Soft g N w w := ⟨rfl, rfl, rfl, Nat.le_refl _, fun _ _ _ => rfl, fun _ _ h => h⟩
theorem Soft.trans {g N : Nat} {a b c : World} (h : Soft g N a b) (h' : Soft g N b c) : Soft g N a c :=
  ⟨h'.os.trans h.os, h'.tape.trans h.tape, h'.output.trans h.output, Nat.le_trans h.size h'.size, fun k hk hg => (h'.block k hk hg).trans (h.block k hk hg), fun B hN hB => h'.sig B hN (h.sig B hN hB)⟩
theorem Soft.of {g N : Nat} {a b : World} (hg : g < N) (hN : N ≤ a.heap.size) (h : a.grownBy b (some g)) : Soft g N a b :=
  ⟨h.os, h.tape, h.output, h.size, fun k hk hne => h.block k (by omega) (fun e => hne (by injection e with e)), fun B hB hs => hs.grown h (fun e => by injection e with e; omega)⟩
theorem Soft.store {g N B : Nat} {a b : World} (hN : N ≤ a.heap.size) (hB : N ≤ B) (hs : SigAt B b) (h : a.grownBy b (some B)) : Soft g N a b :=
  ⟨h.os, h.tape, h.output, h.size, fun k hk _ => h.block k (by omega) (fun e => by injection e with e; omega), fun B' _ hs' => by
    by_cases e : B' = B
    · rw [e]; exact hs
    · exact hs'.grown h (fun e2 => e (by injection e2 with e2; exact e2.symm))⟩
def IsSig (v : Value) : Prop := ∃ (s : ByteArray) (m x q : Int), v = sigA s m x q ∧ s.size ≤ 200
def IsSigT (v : Value) : Prop := ∃ (s : ByteArray) (m x q : Int) (p : Bool), v = .tuple #[sigA s m x q, .bool p] ∧ s.size ≤ 200
def SigPtr (N : Nat) (v : Value) (w : World) : Prop := ∃ B, v = .pointer (some ⟨B, 0, none⟩) ∧ N ≤ B ∧ SigAt B w
theorem SigPtr.soft {g N : Nat} {v : Value} {a b : World} (h : SigPtr N v a) (hT : Soft g N a b) : SigPtr N v b := by
  obtain ⟨B, e, hB, hs⟩ := h
  exact ⟨B, e, hB, hT.sig B hB hs⟩

set_option maxHeartbeats 4000000 in
theorem drawSignedOn_any (A : Option Addr) (n c : Nat) (xs : List Int) (w : World) (h : Row .u8 w A n c xs) :
    Calls Try.prog 33 #[.slice A n c] w fun e' w' => ∃ (B : Option Addr) (k d : Nat) (ys : List Tn) (s : ByteArray) (m x q day : Int), e' = .returned (.tuple #[.slice B k d, sigA s m x q, .int .i64 day]) ∧ w'.ownsRow w.heap.size 39 4 (.slice B k d) k (tns ys) ∧ s.size ≤ 200 ∧ -150 ≤ day ∧ day ≤ 149 ∧ Below w.heap.size w w' := by
  have hb := h.byte
  have hr0 : (w.alloc (.cells #[.string ⟨#[]⟩, .int .i64 0, .int .i64 0, .int .i64 0] 57)).heap[w.heap.size]? = some (.cells #[.string ⟨#[]⟩, .int .i64 0, .int .i64 0, .int .i64 0] 57 (0, 0)) := alloc_new' rfl
  have b0 : Below w.heap.size w (w.alloc (.cells #[.string ⟨#[]⟩, .int .i64 0, .int .i64 0, .int .i64 0] 57)) := ((Ext.of.refl w).alloc _).below
  have hz0 : (w.alloc (.cells #[.string ⟨#[]⟩, .int .i64 0, .int .i64 0, .int .i64 0] 57)).heap.size = w.heap.size + 1 := by simp
  go_enter Try.func33, Try.ntmps33
  go_wp2_with fail
  refine (open_any A n c xs _ (h.sl.alloc _) hb).mono ?_
  rintro e' w1 ⟨rfl, R1, B1⟩
  rw [hz0] at R1 B1
  have r1 := (B1.block w.heap.size (by omega)).trans hr0
  have T1 := b0.trans (B1.mono (by omega))
  clear B1 hr0 b0 h hb hz0
  go_wp2_with fail
  refine (turns_any (w.heap.size + 1) _ 12 _ R1 (by omega) (by omega) (by omega)).mono ?_
  rintro e' w2 ⟨B, k, d, ys, rfl, O, hk, p2, l1, l2, R2, G2⟩
  have r2 := rowAt r1 G2 (by omega)
  have T2 := T1.grown G2 T1.size (by rintro _ ⟨rfl⟩; omega)
  have hw1 := R1.lt
  have O := own_lower O (show w.heap.size + 2 ≤ w1.heap.size by omega)
  clear R1 r1 T1 G2
  go_wp2_with fail
  refine (pick_any (w.heap.size + 1) p2 150 _ R2 (by omega) (by omega) (by omega)).mono ?_
  rintro e' w3 ⟨q0, rfl, q1, q2, R3, G3⟩
  have r3 := rowAt r2 G3 (by omega)
  have T3 := T2.grown G3 T2.size (by rintro _ ⟨rfl⟩; omega)
  have O := O.kept G3 (by right; intro e; have := (O.lt _ e).1; omega)
  clear R2 r2 T2 G3
  go_wp2_with fail
  refine (pick_any (w.heap.size + 1) (p2 + 1) 14 _ R3 (by omega) (by omega) (by omega)).mono ?_
  rintro e' w4 ⟨r, rfl, t0, t1, R4, G4⟩
  have r4 := rowAt r3 G4 (by omega)
  have T4 := T3.grown G4 T3.size (by rintro _ ⟨rfl⟩; omega)
  have O := O.kept G4 (by right; intro e; have := (O.lt _ e).1; omega)
  clear R3 r3 T3 G4
  have hqd := Int.tdiv_eq_ediv_of_nonneg (b := 13) t0
  have hdw := IntWalk.i64_in (r / 13) (by omega)
  have hd : r / 13 = 0 ∨ r / 13 = 1 := by omega
  have hm := IntWalk.i64_in (r / 13 * 150) (by omega)
  obtain ⟨day, hD⟩ : ∃ day, q0 - r / 13 * 150 = day := ⟨_, rfl⟩
  have hs : IntKind.i64.wrap (q0 - r / 13 * 150) = day := by rw [IntWalk.i64_in (q0 - r / 13 * 150) (by omega)]; exact hD
  have hQ : -150 ≤ day ∧ day ≤ 149 := by omega
  clear hd hD
  have HQ := hid hQ
  clear hQ
  have two : ∀ (W : World) (p : Nat), p ≤ 1100 → Rd W (w.heap.size + 1) p → W.heap[w.heap.size]? = some (.cells #[.string ⟨#[]⟩, .int .i64 0, .int .i64 0, .int .i64 0] 57 (0, 0)) → Below w.heap.size w W → W.ownsRow (w.heap.size + 2) 39 4 (.slice B k d) k (tns ys) →
      Calls Try.prog 54 #[.pointer (some ⟨w.heap.size + 1, 0, none⟩)] W fun e' w5 => ∃ (s : ByteArray) (m x q : Int), e' = .returned (sigA s m x q) ∧ s.size ≤ 200 ∧ w5.heap[w.heap.size]? = some (.cells #[.string ⟨#[]⟩, .int .i64 0, .int .i64 0, .int .i64 0] 57 (0, 0)) ∧ Below w.heap.size w w5 ∧ w5.ownsRow (w.heap.size + 2) 39 4 (.slice B k d) k (tns ys) := by
    intro W p hp R r T O
    refine (signed_any _ _ _ R (by omega)).mono ?_
    rintro e' w5 ⟨s, m, x, q, rfl, hs, p5, l5, l6, R5, G5⟩
    exact ⟨s, m, x, q, rfl, hs, rowAt r G5 (by omega), T.grown G5 T.size (by rintro _ ⟨rfl⟩; omega), O.kept G5 (by right; intro e; have := (O.lt _ e).1; omega)⟩
  by_cases hk0 : 0 < k
  · have t2 : decide ((0 : Int) < (k : Int)) = true := by simp; omega
    have HK := hid hk0
    clear hk0
    go_wp2_with fail
    refine (pick_any (w.heap.size + 1) (p2 + 1 + 1) 4 _ R4 (by omega) (by omega) (by omega)).mono ?_
    rintro e' w5 ⟨u0, rfl, u1, u2, R5, G5⟩
    have r5 := rowAt r4 G5 (by omega)
    have T5 := T4.grown G5 T4.size (by rintro _ ⟨rfl⟩; omega)
    have O := O.kept G5 (by right; intro e; have := (O.lt _ e).1; omega)
    clear R4 r4 T4 G5
    by_cases hu : 0 < u0
    · have t3 : decide (0 < u0) = true := by simpa using hu
      clear hu two
      obtain ⟨ad, _, _, _, _, hA, _⟩ := (own_sl O).tn (j := 0) HK.out
      subst hA
      go_wp2_with fail
      obtain ⟨P, hP, R5⟩ : ∃ P, P ≤ 1030 ∧ Rd w5 (w.heap.size + 1) P := ⟨_, by omega, R5⟩
      have hgN : w.heap.size + 1 < w5.heap.size := R5.lt
      have hNV : w5.heap.size ≤ w5.heap.size := Nat.le_refl _
      have grow : ∀ u, Soft (w.heap.size + 1) w5.heap.size w5 u → w5.grownBy u (some (w.heap.size + 1)) := fun u h => ⟨h.os, h.tape, h.output, h.size, fun j hj hne => h.block j hj (fun e => hne (by rw [e]))⟩
      have next : ∀ kk w', (fun j w' => ∃ p', p' ≤ P + 20 * j ∧ Rd w' (w.heap.size + 1) p' ∧ Soft (w.heap.size + 1) w5.heap.size w5 w') kk w' → (fun j w' => ∃ p', p' ≤ P + 20 * j ∧ Rd w' (w.heap.size + 1) p' ∧ Soft (w.heap.size + 1) w5.heap.size w5 w') (kk + 1) w' := fun kk w' ⟨p', hp, h⟩ => ⟨p', by omega, h⟩
      refine wp_region_steps (W := fun j w' => ∃ p', p' ≤ P + 20 * j ∧ Rd w' (w.heap.size + 1) p' ∧ Soft (w.heap.size + 1) w5.heap.size w5 w') (Tr := fun a b => Soft (w.heap.size + 1) w5.heap.size a b) (F := fun i v w' => match i with
          | 0 => v = .slice (some ad) k d
          | 1 => v = .pointer (some ⟨w.heap.size + 1, 0, none⟩)
          | 2 => v = .slice (some ad) k d
          | 3 => v = .int .i64 k
          | 4 => ∃ j : Nat, j < k ∧ v = .int .i64 j
          | 5 => ∃ j : Nat, j < k ∧ v = .pointer (some (ad.add (j * 4)))
          | 6 => ∃ j : Nat, j < k ∧ v = .pointer (some ⟨(ad.add (j * 4)).block, (ad.add (j * 4)).off + 1, none⟩)
          | 7 => IsKey v
          | 8 => v = .pointer (some ⟨w.heap.size + 1, 0, none⟩)
          | 9 => IsS 200 v
          | 10 => IsSigT v
          | 11 => IsSigT v
          | 12 => IsSig v
          | 13 => IsB v
          | 14 => SigPtr w5.heap.size v w'
          | 16 => IsB v
          | _ => True) (by kernel_rfl) (by kernel_rfl) ?_ ?_ ?_ ?_
      · exact ⟨P, by omega, R5.drewN 1, ⟨rfl, rfl, rfl, Nat.le_refl _, fun _ _ _ => rfl, fun _ _ h => h⟩⟩
      · intro kk a b i v hW hT hF
        match i with
        | 0 => exact hF
        | 1 => exact hF
        | 2 => exact hF
        | 3 => exact hF
        | 4 => exact hF
        | 5 => exact hF
        | 6 => exact hF
        | 7 => exact hF
        | 8 => exact hF
        | 9 => exact hF
        | 10 => exact hF
        | 11 => exact hF
        | 12 => exact hF
        | 13 => exact hF
        | 14 => exact SigPtr.soft hF hT
        | 15 => exact hF
        | 16 => exact hF
        | _ + 17 => trivial
      · refine ⟨fun kk ρ u hkk hc hf hb hW hd => ?_, ?_⟩
        · have hkk : kk < 17 := hkk
          exact yield_move _ rfl ⟨hb 6 (by kernel_rfl), next _ _ hW, Soft.refl _ _ _⟩
        refine ⟨fun kk ρ u hkk hc hf hb hW hd => ?_, ?_⟩
        · have hkk : kk < 17 := hkk
          exact yield_move _ rfl ⟨hb 5 (by kernel_rfl), next _ _ hW, Soft.refl _ _ _⟩
        refine ⟨fun kk ρ u hkk hc hf hb hW hd => ?_, ?_⟩
        · have hkk : kk < 17 := hkk
          exact yield_move _ rfl ⟨hb 6 (by kernel_rfl), next _ _ hW, Soft.refl _ _ _⟩
        refine ⟨fun kk ρ u hkk hc hf hb hW hd => ?_, ?_⟩
        · have hkk : kk < 17 := hkk
          have e0 : (ρ (.tmp 32)) = .slice (some ad) k d := hd.1 rfl rfl
          clear hd hb
          exact yield_value (w' := u) (.int .i64 k) (by simp [go_sem, hc, hf, e0]) ⟨rfl, next _ _ hW, Soft.refl _ _ _⟩
        refine ⟨fun kk ρ u hkk hc hf hb hW hd => ?_, ?_⟩
        · have hkk : kk < 17 := hkk
          have e0 : (ρ (.tmp 31)) = .pointer (some ⟨w.heap.size + 1, 0, none⟩) := hd.1 rfl rfl
          have e1 : (ρ (.tmp 33)) = .int .i64 k := hd.2.1 rfl rfl
          have hk1 := HK.out
          obtain ⟨p', hp, hR, hG⟩ := hW
          have hz := hG.size
          clear hd hb
          refine yield_call 46 #[.pointer (some ⟨w.heap.size + 1, 0, none⟩), .int .i64 k] (by simp [go_sem, hc, hf, e0, e1]) ?_
          refine (pick_any _ _ _ _ hR (by omega) (by omega) (by omega)).mono ?_
          rintro e w4 ⟨q', rfl, q0', q1', R4, G4⟩
          have hS := Soft.of hgN (Nat.le_trans hNV hz) G4
          exact ⟨_, rfl, ⟨q'.toNat, by omega, by rw [Int.toNat_of_nonneg q0']⟩, ⟨p' + 1, by omega, R4, hG.trans hS⟩, hS⟩
        refine ⟨fun kk ρ u hkk hc hf hb hW hd => ?_, ?_⟩
        · have hkk : kk < 17 := hkk
          have e0 : (ρ (.tmp 30)) = .slice (some ad) k d := hd.1 rfl rfl
          obtain ⟨i, hi, e1⟩ : ∃ j : Nat, j < k ∧ (ρ (.tmp 34)) = .int .i64 j := hd.2.1 rfl rfl
          clear hd hb
          exact yield_value (w' := u) (.pointer (some (ad.add (i * 4)))) (by simp [go_sem, hc, hf, e0, e1, IntWalk.i64_in, hi]) ⟨⟨i, hi, rfl⟩, next _ _ hW, Soft.refl _ _ _⟩
        refine ⟨fun kk ρ u hkk hc hf hb hW hd => ?_, ?_⟩
        · have hkk : kk < 17 := hkk
          obtain ⟨i, hi, e0⟩ : ∃ j : Nat, j < k ∧ (ρ (.tmp 35)) = .pointer (some (ad.add (j * 4))) := hd.1 rfl rfl
          clear hd hb
          exact yield_value (w' := u) (.pointer (some ⟨(ad.add (i * 4)).block, (ad.add (i * 4)).off + 1, none⟩)) (by simp [go_sem, hc, hf, e0]) ⟨⟨i, hi, rfl⟩, next _ _ hW, Soft.refl _ _ _⟩
        refine ⟨fun kk ρ u hkk hc hf hb hW hd => ?_, ?_⟩
        · have hkk : kk < 17 := hkk
          obtain ⟨i, hi, e0⟩ : ∃ j : Nat, j < k ∧ (ρ (.tmp 36)) = .pointer (some ⟨(ad.add (j * 4)).block, (ad.add (j * 4)).off + 1, none⟩) := hd.1 rfl rfl
          clear hd hb
          have hW' := next _ _ hW
          obtain ⟨p', hp, hR, hG⟩ := hW
          have hO := O.kept (grow _ hG) (by right; intro e; have := (O.lt _ e).1; omega)
          obtain ⟨ad', x0, a, b, e, hA, hab, c0, c1, c2, c3⟩ := (own_sl hO).tn hi
          cases hA
          have c2 : u.cell? ⟨(ad.add (i * 4)).block, (ad.add (i * 4)).off + 1 + 1, none⟩ = _ := c2
          have c3 : u.cell? ⟨(ad.add (i * 4)).block, (ad.add (i * 4)).off + 1 + 2, none⟩ = _ := c3
          exact yield_value (w' := u) (keyA a b e) (by simp [go_sem, hc, hf, e0, c1, c2, c3]) ⟨⟨a, b, e, rfl⟩, hW', Soft.refl _ _ _⟩
        refine ⟨fun kk ρ u hkk hc hf hb hW hd => ?_, ?_⟩
        · have hkk : kk < 17 := hkk
          exact yield_move _ rfl ⟨hb 5 (by kernel_rfl), next _ _ hW, Soft.refl _ _ _⟩
        refine ⟨fun kk ρ u hkk hc hf hb hW hd => ?_, ?_⟩
        · have hkk : kk < 17 := hkk
          have e0 : (ρ (.tmp 38)) = .pointer (some ⟨w.heap.size + 1, 0, none⟩) := hd.1 rfl rfl
          obtain ⟨p', hp, hR, hG⟩ := hW
          have hz := hG.size
          clear hd hb
          refine yield_call 53 #[.pointer (some ⟨w.heap.size + 1, 0, none⟩), .int .i64 0] (by simp [go_sem, hc, hf, e0]) ?_
          refine (text_any _ _ _ _ hR (by omega) (by omega) (by omega)).mono ?_
          rintro e' w3 ⟨s, rfl, hs, p3, l3, l4, R3, G3⟩
          have hS := Soft.of hgN (Nat.le_trans hNV hz) G3
          exact ⟨_, rfl, ⟨s, rfl, hs⟩, ⟨p3, by omega, R3, hG.trans hS⟩, hS⟩
        refine ⟨fun kk ρ u hkk hc hf hb hW hd => ?_, ?_⟩
        · have hkk : kk < 17 := hkk
          obtain ⟨a, b, e, e0⟩ : IsKey (ρ (.tmp 37)) := hd.1 rfl rfl
          obtain ⟨s, e1, hs⟩ : IsS 200 (ρ (.tmp 39)) := hd.2.1 rfl rfl
          obtain ⟨p', hp, hR, hG⟩ := hW
          have hz := hG.size
          clear hd hb
          refine yield_call 52 #[keyA a b e, .string s] (by simp [go_sem, hc, hf, e0, e1]) ?_
          have hss := sgV_size a b e s
          refine (sgnS_any a b e s _ (by omega)).mono ?_
          rintro e' w3 ⟨rfl, b3⟩
          have G3 := grown_of_below b3 (some (w.heap.size + 1))
          have hS := Soft.of hgN (Nat.le_trans hNV hz) G3
          exact ⟨_, rfl, ⟨_, _, _, _, _, rfl, by omega⟩, ⟨p', by omega, hR.below b3, hG.trans hS⟩, hS⟩
        refine ⟨fun kk ρ u hkk hc hf hb hW hd => ?_, ?_⟩
        · have hkk : kk < 17 := hkk
          exact yield_move _ rfl ⟨hd.1 rfl rfl, next _ _ hW, Soft.refl _ _ _⟩
        refine ⟨fun kk ρ u hkk hc hf hb hW hd => ?_, ?_⟩
        · have hkk : kk < 17 := hkk
          obtain ⟨s, m, x, q, pp, e0, hs⟩ : IsSigT (ρ (.tmp 29)) := hd.1 rfl rfl
          clear hd hb
          exact yield_value (w' := u) (sigA s m x q) (by simp [go_sem, hc, hf, e0]) ⟨⟨_, _, _, _, rfl, hs⟩, next _ _ hW, Soft.refl _ _ _⟩
        refine ⟨fun kk ρ u hkk hc hf hb hW hd => ?_, ?_⟩
        · have hkk : kk < 17 := hkk
          obtain ⟨s, m, x, q, pp, e0, hs⟩ : IsSigT (ρ (.tmp 29)) := hd.1 rfl rfl
          clear hd hb
          exact yield_value (w' := u) (.bool pp) (by simp [go_sem, hc, hf, e0]) ⟨⟨_, rfl⟩, next _ _ hW, Soft.refl _ _ _⟩
        refine ⟨fun kk ρ u hkk hc hf hb hW hd => ?_, ?_⟩
        · have hkk : kk < 17 := hkk
          obtain ⟨p', hp, hR, hG⟩ := hW
          have hz := hG.size
          clear hd hb
          have hS : Soft (w.heap.size + 1) w5.heap.size u (u.alloc (.cells #[.string ⟨#[]⟩, .int .i64 0, .int .i64 0, .int .i64 0] 57)) := Soft.of hgN (Nat.le_trans hNV hz) (World.grownBy_alloc _ _ _)
          refine yield_value (w' := u.alloc (.cells #[.string ⟨#[]⟩, .int .i64 0, .int .i64 0, .int .i64 0] 57)) (.pointer (some ⟨u.heap.size, 0, none⟩)) ?_ ⟨⟨u.heap.size, rfl, Nat.le_trans hNV hz, _, _, _, _, alloc_new' rfl, by decide⟩, ⟨p', by omega, hR.alloc _, hG.trans hS⟩, hS⟩
          simp [go_sem, hc, hf]
        refine ⟨fun kk ρ u hkk hc hf hb hW hd => ?_, ?_⟩
        · have hkk : kk < 17 := hkk
          obtain ⟨B, e0, hB, s', m', x', q', hX, _⟩ : SigPtr w5.heap.size (ρ (.tmp 8)) u := hd.1 rfl rfl
          obtain ⟨s, m, x, q, e1, hs⟩ : IsSig (ρ (.tmp 41)) := hd.2.1 rfl rfl
          obtain ⟨p', hp, hR, hG⟩ := hW
          have hz := hG.size
          have f0 := frozen_of_row u B 0 _ _ hX
          have f1 := frozen_of_row u B 1 _ _ hX
          have f2 := frozen_of_row u B 2 _ _ hX
          have f3 := frozen_of_row u B 3 _ _ hX
          have z0 := cell_of_row u B 0 _ _ _ hX
          have z1 := cell_of_row u B 1 _ _ _ hX
          have z2 := cell_of_row u B 2 _ _ _ hX
          have z3 := cell_of_row u B 3 _ _ _ hX
          have ks := row4 (a := .string s) (b := .int .i64 m) (c := .int .i64 x) (d := .int .i64 q) hX
          have hS : Soft (w.heap.size + 1) w5.heap.size u _ := Soft.store (Nat.le_trans hNV hz) hB ⟨_, _, _, _, ks.1, hs⟩ ks.2
          clear hd hb
          unfold Yield
          simp [go_sem, hc, hf, e0, e1, f0, f1, f2, f3, z0, z1, z2, z3]
          exact ⟨⟨p', by omega, hR.grown ks.2 (by rintro _ ⟨rfl⟩; omega), hG.trans hS⟩, hS⟩
        refine ⟨fun kk ρ u hkk hc hf hb hW hd => ?_, ?_⟩
        · have hkk : kk < 17 := hkk
          exact yield_assign _ rfl ⟨hd.1 rfl rfl, next _ _ hW, Soft.refl _ _ _⟩
        trivial
      intro env w6 hW hF
      obtain ⟨p', hp, hR, hG⟩ := hW
      obtain ⟨B6, y14, hB6, s, m, x, q, hX6, hs⟩ : SigPtr w5.heap.size (env 14) w6 := hF 14 (of_decide_eq_true (by kernel_rfl))
      obtain ⟨pb, y16⟩ : IsB (env 16) := hF 16 (of_decide_eq_true (by kernel_rfl))
      have r6 := (hG.block _ (Array.getElem?_eq_some_iff.1 r5).1 (by omega)).trans r5
      have O6 := O.kept (grow _ hG) (by right; intro e; have := (O.lt _ e).1; omega)
      have T6 : Below w.heap.size w w6 := T5.trans ⟨hG.os, hG.tape, hG.output, hG.size, fun j hj => hG.block j (by have := T5.size; omega) (by omega)⟩
      clear hF next
      have hr : List.range 50 = [0, 1, 2, 3, 4, 5, 6, 7, 8, 9, 10, 11, 12, 13, 14, 15, 16, 17, 18, 19, 20, 21, 22, 23, 24, 25, 26, 27, 28, 29, 30, 31, 32, 33, 34, 35, 36, 37, 38, 39, 40, 41, 42, 43, 44, 45, 46, 47, 48, 49] := by kernel_rfl
      unfold after
      simp only [List.size_toArray, List.length_cons, List.length_nil, Nat.reduceAdd, hr, List.map_cons, List.map_nil]
      simp [idxOf, List.findIdx?, List.findIdx?.go, y14, y16]
      clear hr
      go_wp2_with fail
      clear O r5 T5 hR
      have next : ∀ kk w', (fun j w' => ∃ p' : Nat, p' ≤ 20 * j ∧ Below w.heap.size w w' ∧ SigAt w.heap.size w' ∧ SigAt B6 w' ∧ w'.ownsRow (w.heap.size + 2) 39 4 (.slice (some ad) k d) k (tns ys)) kk w' → (fun j w' => ∃ p' : Nat, p' ≤ 20 * j ∧ Below w.heap.size w w' ∧ SigAt w.heap.size w' ∧ SigAt B6 w' ∧ w'.ownsRow (w.heap.size + 2) 39 4 (.slice (some ad) k d) k (tns ys)) (kk + 1) w' := fun kk w' ⟨p', hp, h⟩ => ⟨p', by omega, h⟩
      refine wp_region_steps (W := fun j w' => ∃ p' : Nat, p' ≤ 20 * j ∧ Below w.heap.size w w' ∧ SigAt w.heap.size w' ∧ SigAt B6 w' ∧ w'.ownsRow (w.heap.size + 2) 39 4 (.slice (some ad) k d) k (tns ys)) (Tr := fun _ _ => True) (F := fun i v w' => match i with
          | 0 => v = .slice (some ad) k d
          | 1 => IsSig v
          | 2 => v = .int .i64 day
          | 3 => v = .slice (some ad) k d
          | 5 => v = .int .i64 day
          | _ => True) (by kernel_rfl) (by kernel_rfl) ?_ ?_ ?_ ?_
      · exact ⟨0, by omega, ⟨T6.os, T6.tape, T6.output, T6.size, T6.block⟩, ⟨_, _, _, _, r6, by decide⟩, ⟨_, _, _, _, hX6, hs⟩, own_drewN O6 1⟩
      · intro kk a b i v hW hT hF
        match i with
        | 0 => exact hF
        | 1 => exact hF
        | 2 => exact hF
        | 3 => exact hF
        | 4 => exact hF
        | 5 => exact hF
        | _ + 6 => trivial
      · refine ⟨fun kk ρ u hkk hc hf hb hW hd => ?_, ?_⟩
        · have hkk : kk < 6 := hkk
          exact yield_move _ rfl ⟨hb 6 (by kernel_rfl), next _ _ hW, trivial⟩
        refine ⟨fun kk ρ u hkk hc hf hb hW hd => ?_, ?_⟩
        · have hkk : kk < 6 := hkk
          have e0 : ρ (.tmp 8) = .pointer (some ⟨B6, 0, none⟩) := hb 8 (by kernel_rfl)
          have hW' := next _ _ hW
          obtain ⟨p', hp, hT, hS, ⟨s, m, x, q, hX, hs⟩, hO⟩ := hW
          clear hd hb
          have x0 := cell_of_row u B6 0 _ _ _ hX
          have x1 := cell_of_row u B6 1 _ _ _ hX
          have x2 := cell_of_row u B6 2 _ _ _ hX
          have x3 := cell_of_row u B6 3 _ _ _ hX
          exact yield_value (w' := u) (sigA s m x q) (by simp [go_sem, hc, hf, e0, x0, x1, x2, x3]) ⟨⟨_, _, _, _, rfl, hs⟩, hW', trivial⟩
        refine ⟨fun kk ρ u hkk hc hf hb hW hd => ?_, ?_⟩
        · have hkk : kk < 6 := hkk
          exact yield_move _ rfl ⟨hb 7 (by kernel_rfl), next _ _ hW, trivial⟩
        refine ⟨fun kk ρ u hkk hc hf hb hW hd => ?_, ?_⟩
        · have hkk : kk < 6 := hkk
          exact yield_assign _ rfl ⟨hd.1 rfl rfl, next _ _ hW, trivial⟩
        refine ⟨fun kk ρ u hkk hc hf hb hW hd => ?_, ?_⟩
        · have hkk : kk < 6 := hkk
          have e0 : ρ (.tmp 3) = .pointer (some ⟨w.heap.size, 0, none⟩) := hb 3 (by kernel_rfl)
          obtain ⟨s, m, x, q, e1, hs⟩ : IsSig (ρ (.tmp 44)) := hd.1 rfl rfl
          obtain ⟨p', hp, hT, ⟨s', m', x', q', hX, _⟩, hS6, hO⟩ := hW
          have f0 := frozen_of_row u w.heap.size 0 _ _ hX
          have f1 := frozen_of_row u w.heap.size 1 _ _ hX
          have f2 := frozen_of_row u w.heap.size 2 _ _ hX
          have f3 := frozen_of_row u w.heap.size 3 _ _ hX
          have z0 := cell_of_row u w.heap.size 0 _ _ _ hX
          have z1 := cell_of_row u w.heap.size 1 _ _ _ hX
          have z2 := cell_of_row u w.heap.size 2 _ _ _ hX
          have z3 := cell_of_row u w.heap.size 3 _ _ _ hX
          have ks := row4 (a := .string s) (b := .int .i64 m) (c := .int .i64 x) (d := .int .i64 q) hX
          have hO2 := hO.kept ks.2 (by right; intro e; have := (hO.lt _ e).1; omega)
          clear hd hb
          unfold Yield
          simp [go_sem, hc, hf, e0, e1, f0, f1, f2, f3, z0, z1, z2, z3]
          exact ⟨⟨p', by omega⟩, hT.grown ks.2 hT.size (by rintro _ ⟨rfl⟩; omega), ⟨_, _, _, _, ks.1, hs⟩, hS6.grown ks.2 (fun e => by injection e with e; omega), hO2⟩
        refine ⟨fun kk ρ u hkk hc hf hb hW hd => ?_, ?_⟩
        · have hkk : kk < 6 := hkk
          exact yield_assign _ rfl ⟨hd.1 rfl rfl, next _ _ hW, trivial⟩
        trivial
      intro env w7 hW hF
      obtain ⟨_, _, T7, ⟨s, m, x, q, hX, hs⟩, _, O7⟩ := hW
      have y3 : env 3 = .slice (some ad) k d := hF 3 (of_decide_eq_true (by kernel_rfl))
      have y5 : env 5 = .int .i64 day := hF 5 (of_decide_eq_true (by kernel_rfl))
      clear hF next
      have hr : List.range 50 = [0, 1, 2, 3, 4, 5, 6, 7, 8, 9, 10, 11, 12, 13, 14, 15, 16, 17, 18, 19, 20, 21, 22, 23, 24, 25, 26, 27, 28, 29, 30, 31, 32, 33, 34, 35, 36, 37, 38, 39, 40, 41, 42, 43, 44, 45, 46, 47, 48, 49] := by kernel_rfl
      unfold after
      simp only [List.size_toArray, List.length_cons, List.length_nil, Nat.reduceAdd, hr, List.map_cons, List.map_nil]
      simp [idxOf, List.findIdx?, List.findIdx?.go, y3, y5]
      clear hr
      have v0 := cell_of_row w7 w.heap.size 0 _ _ _ hX
      have v1 := cell_of_row w7 w.heap.size 1 _ _ _ hX
      have v2 := cell_of_row w7 w.heap.size 2 _ _ _ hX
      have v3 := cell_of_row w7 w.heap.size 3 _ _ _ hX
      go_wp2
      exact bodyPost_ret (v := .tuple #[.slice (some ad) k d, sigA s m x q, .int .i64 day]) (by simp [results, Try.results33, go_sem, v0, v1, v2, v3]) rfl ⟨some ad, k, d, ys, s, m, x, q, day, rfl, own_lower O7 (by omega), hs, HQ.out.1, HQ.out.2, T7⟩
    · have t3 : decide (0 < u0) = false := by simpa using hu
      clear hu
      go_wp2_with fail
      refine (two _ (p2 + 1 + 1 + 1) (by omega) R5 r5 T5 O).mono ?_
      rintro e' w6 ⟨s, m, x, q, rfl, hs, r6, T6, O6⟩
      clear two R5 r5 T5 O
      have f0 := frozen_of_row w6 w.heap.size 0 _ _ r6
      have f1 := frozen_of_row w6 w.heap.size 1 _ _ r6
      have f2 := frozen_of_row w6 w.heap.size 2 _ _ r6
      have f3 := frozen_of_row w6 w.heap.size 3 _ _ r6
      have c0 := cell_of_row w6 w.heap.size 0 _ _ _ r6
      have c1 := cell_of_row w6 w.heap.size 1 _ _ _ r6
      have c2 := cell_of_row w6 w.heap.size 2 _ _ _ r6
      have c3 := cell_of_row w6 w.heap.size 3 _ _ _ r6
      go_wp2
      have ks := row4 (a := .string s) (b := .int .i64 m) (c := .int .i64 x) (d := .int .i64 q) r6
      have O7 := O6.kept ks.2 (by right; intro e; have := (O6.lt _ e).1; omega)
      have T7 := T6.grown ks.2 T6.size (by rintro _ ⟨rfl⟩; exact Nat.le_refl _)
      revert ks O7 T7
      generalize ((((w6.setCell ⟨w.heap.size, 0, none⟩ (.string s)).setCell ⟨w.heap.size, 1, none⟩ (.int .i64 m)).setCell ⟨w.heap.size, 2, none⟩ (.int .i64 x)).setCell ⟨w.heap.size, 3, none⟩ (.int .i64 q)) = U
      intro ks O7 T7
      have v0 := cell_of_row U w.heap.size 0 _ _ _ ks.1
      have v1 := cell_of_row U w.heap.size 1 _ _ _ ks.1
      have v2 := cell_of_row U w.heap.size 2 _ _ _ ks.1
      have v3 := cell_of_row U w.heap.size 3 _ _ _ ks.1
      exact bodyPost_ret (v := .tuple #[.slice B k d, sigA s m x q, .int .i64 day]) (by simp [results, Try.results33, go_sem, v0, v1, v2, v3]) rfl ⟨B, k, d, ys, s, m, x, q, day, rfl, own_lower O7 (by omega), hs, HQ.out.1, HQ.out.2, T7⟩
  · have t2 : decide ((0 : Int) < (k : Int)) = false := by simp; omega
    go_wp2_with fail
    refine (two _ (p2 + 1 + 1) (by omega) R4 r4 T4 O).mono ?_
    rintro e' w6 ⟨s, m, x, q, rfl, hs, r6, T6, O6⟩
    clear two R4 r4 T4 O
    have f0 := frozen_of_row w6 w.heap.size 0 _ _ r6
    have f1 := frozen_of_row w6 w.heap.size 1 _ _ r6
    have f2 := frozen_of_row w6 w.heap.size 2 _ _ r6
    have f3 := frozen_of_row w6 w.heap.size 3 _ _ r6
    have c0 := cell_of_row w6 w.heap.size 0 _ _ _ r6
    have c1 := cell_of_row w6 w.heap.size 1 _ _ _ r6
    have c2 := cell_of_row w6 w.heap.size 2 _ _ _ r6
    have c3 := cell_of_row w6 w.heap.size 3 _ _ _ r6
    go_wp2
    have ks := row4 (a := .string s) (b := .int .i64 m) (c := .int .i64 x) (d := .int .i64 q) r6
    have O7 := O6.kept ks.2 (by right; intro e; have := (O6.lt _ e).1; omega)
    have T7 := T6.grown ks.2 T6.size (by rintro _ ⟨rfl⟩; exact Nat.le_refl _)
    revert ks O7 T7
    generalize ((((w6.setCell ⟨w.heap.size, 0, none⟩ (.string s)).setCell ⟨w.heap.size, 1, none⟩ (.int .i64 m)).setCell ⟨w.heap.size, 2, none⟩ (.int .i64 x)).setCell ⟨w.heap.size, 3, none⟩ (.int .i64 q)) = U
    intro ks O7 T7
    have v0 := cell_of_row U w.heap.size 0 _ _ _ ks.1
    have v1 := cell_of_row U w.heap.size 1 _ _ _ ks.1
    have v2 := cell_of_row U w.heap.size 2 _ _ _ ks.1
    have v3 := cell_of_row U w.heap.size 3 _ _ _ ks.1
    exact bodyPost_ret (v := .tuple #[.slice B k d, sigA s m x q, .int .i64 day]) (by simp [results, Try.results33, go_sem, v0, v1, v2, v3]) rfl ⟨B, k, d, ys, s, m, x, q, day, rfl, own_lower O7 (by omega), hs, HQ.out.1, HQ.out.2, T7⟩
end Go.Proofs.Ytcpepjnmjiffcaa
