/- The contracts of the draws of a key with a number, and with a text. -/
import Derived.Test.YthbjbodkbpbbaaaDrawText
import Derived.Test.YthbjbodkbpbbaaaDrawKey
import Derived.Test.YthbjbodkbpbbaaaSign
namespace Go.Proofs.Ythbjbodkbpbbaaa
open Go.RowKit
set_option linter.unusedVariables false
set_option linter.unusedSimpArgs false
/-- Behind the reader's opening: the result's block lies ahead of the reader. -/
theorem rowAt {w w' : World} {r : Nat} {o : Obj} (h : w.heap[r]? = some o) {g : Nat} (G : w.grownBy w' (some g)) (hne : r ≠ g) : w'.heap[r]? = some o :=
  (G.block r (Array.getElem?_eq_some_iff.1 h).1 (fun e => by injection e with e; exact hne e)).trans h
/-- A store into a block that holds no bytes: the reader's bytes lie elsewhere. -/
theorem rd_set {w : World} {r g p i : Nat} {cs : Array Value} {v : Value} {T : TypeId} (h : Rd w g p) (hX : w.heap[r]? = some (.cells cs T (0, 0))) (hn : ∀ (j : Nat) (x : Int), cs[j]? ≠ some (Value.int .u8 x)) (hne : r ≠ g) : Rd (w.setCell ⟨r, i, none⟩ v) g p := by
  obtain ⟨A, n, c, xs, hg, hs, hx, hn', hA⟩ := h
  have key : bytes xs ≠ [] → ∀ ad, A = some ad → ad.block ≠ r := by
    intro hv ad ha e
    subst ha
    cases xs with
    | nil => exact hv rfl
    | cons x0 xt =>
      obtain ⟨ad', had, hc⟩ := hs.see.ad (k := 0) (by simp)
      cases had
      have h0 := hc 0 (.int .u8 x0) rfl
      rw [addr_zero] at h0
      unfold World.cell? at h0
      rw [e, hX] at h0
      revert h0
      cases ad.spot with
      | some _ => intro h0; simp at h0
      | none => intro h0; exact hn _ _ h0
  have s1 := hs.see.setCell (p := ⟨r, i, none⟩) key v
  refine ⟨A, n, c, xs, ?_, ⟨s1, hs.len, hs.cap, hs.max⟩, hx, hn', hA⟩
  rw [heap_setCell_other _ ⟨r, i, none⟩ g _ (fun e => hne e.symm)]
  exact hg
theorem rd_key {w : World} {r g p : Nat} {x y z a b e : Int} {T : TypeId} (h : Rd w g p) (hX : w.heap[r]? = some (.cells #[.int .i64 x, .int .i64 y, .int .i64 z] T (0, 0))) (hne : r ≠ g) :
    Rd (((w.setCell ⟨r, 0, none⟩ (.int .i64 a)).setCell ⟨r, 1, none⟩ (.int .i64 b)).setCell ⟨r, 2, none⟩ (.int .i64 e)) g p := by
  have h1 := heap_setCell_same w r 0 _ T (.int .i64 a) hX
  have h2 := heap_setCell_same _ r 1 _ T (.int .i64 b) h1
  have nb : ∀ (p q s : Int) (j : Nat) (x : Int), (#[Value.int .i64 p, Value.int .i64 q, Value.int .i64 s] : Array Value)[j]? ≠ some (.int .u8 x) := by
    intro p q s j x
    rcases j with _ | _ | _ | j <;> simp
  refine rd_set (rd_set (rd_set h hX (nb _ _ _) hne) h1 ?_ hne) h2 ?_ hne
  · simpa using nb a y z
  · simpa using nb a b z
set_option maxHeartbeats 1000000 in
theorem drawSignText_any (A : Option Addr) (n c : Nat) (xs : List Int) (w : World) (h : Row .u8 w A n c xs) :
    Calls Try.prog 40 #[.slice A n c] w fun e' w' => ∃ (a b e : Int) (s : ByteArray), e' = .returned (.tuple #[keyA a b e, .string s]) ∧ s.size ≤ 200 ∧ Below w.heap.size w w' := by
  have hb := h.byte
  have hr0 : (w.alloc (.cells #[.int .i64 0, .int .i64 0, .int .i64 0] 36)).heap[w.heap.size]? = some (.cells #[.int .i64 0, .int .i64 0, .int .i64 0] 36 (0, 0)) := alloc_new' rfl
  have b0 : Below w.heap.size w (w.alloc (.cells #[.int .i64 0, .int .i64 0, .int .i64 0] 36)) := (Below.refl _ _).alloc (Nat.le_refl _) _
  have hz0 : (w.alloc (.cells #[.int .i64 0, .int .i64 0, .int .i64 0] 36)).heap.size = w.heap.size + 1 := by simp
  go_enter Try.func40, Try.ntmps40
  go_wp2_with fail
  refine (open_any A n c xs _ (h.sl.alloc _) hb).mono ?_
  rintro e' w1 ⟨rfl, R1, B1⟩
  rw [hz0] at R1 B1
  have r1 := (B1.block w.heap.size (by omega)).trans hr0
  have T1 := b0.trans (B1.mono (Nat.le_succ _))
  clear B1 hr0 b0 h hb hz0
  go_wp2_with fail
  refine (drawSign_any (w.heap.size + 1) _ 9 _ R1 (by omega) (by omega) (by omega)).mono ?_
  rintro e' w2 ⟨a, b, e, rfl, p2, l1, l2, R2, G2⟩
  have r2 := rowAt r1 G2 (by omega)
  have T2 := T1.grown G2 T1.size (by rintro _ ⟨rfl⟩; omega)
  have hw1 := R1.lt
  have hw2 := R2.lt
  clear R1 r1 T1 G2
  have k3 : (w2.alloc (.cells #[.int .i64 a, .int .i64 b, .int .i64 e] 36)).heap[w2.heap.size]? = some (.cells #[.int .i64 a, .int .i64 b, .int .i64 e] 36 (0, 0)) := alloc_new' rfl
  have r3 := alloc_old (o := (.cells #[.int .i64 a, .int .i64 b, .int .i64 e] 36)) r2
  have T3 := T2.alloc T2.size (.cells #[.int .i64 a, .int .i64 b, .int .i64 e] 36)
  have R3 := R2.alloc (.cells #[.int .i64 a, .int .i64 b, .int .i64 e] 36)
  clear r2 T2 R2
  have HK := hid (And.intro k3 (And.intro r3 (And.intro T3 R3)))
  clear k3 r3 T3 R3
  go_wp2_with fail
  obtain ⟨k3, r3, T3, R3⟩ := HK.out
  clear HK
  revert k3 r3 T3 R3
  generalize (w2.alloc (.cells #[.int .i64 a, .int .i64 b, .int .i64 e] 36)) = V
  intro k3 r3 T3 R3
  have hkb : w.heap.size + 1 < w2.heap.size := by omega
  have next : ∀ k w', (fun k w' => ∃ p', p' ≤ p2 + 20 * k ∧ Rd w' (w.heap.size + 1) p' ∧ Kept (w.heap.size + 1) w.heap.size V w' ∧ KeyAt w.heap.size 36 w') k w' → (fun k w' => ∃ p', p' ≤ p2 + 20 * k ∧ Rd w' (w.heap.size + 1) p' ∧ Kept (w.heap.size + 1) w.heap.size V w' ∧ KeyAt w.heap.size 36 w') (k + 1) w' := fun k w' ⟨p', hp, h⟩ => ⟨p', by omega, h⟩
  refine wp_region_steps (W := fun k w' => ∃ p', p' ≤ p2 + 20 * k ∧ Rd w' (w.heap.size + 1) p' ∧ Kept (w.heap.size + 1) w.heap.size V w' ∧ KeyAt w.heap.size 36 w') (Tr := fun a b => Kept (w.heap.size + 1) w.heap.size a b) (F := fun i v w' => match i with
      | 0 => v = keyA a b e
      | 1 => v = .pointer (some ⟨w.heap.size + 1, 0, none⟩)
      | 2 => IsS 200 v
      | 4 => IsS 200 v
      | _ => True) (by kernel_rfl) (by kernel_rfl) ?_ ?_ ?_ ?_
  · exact ⟨p2, by omega, R3.drewN 1, Kept.drew _ _ _, ⟨0, 0, 0, r3⟩⟩
  · intro k a b i v hW hT hF
    match i with
    | 0 => exact hF
    | 1 => exact hF
    | 2 => exact hF
    | 3 => exact hF
    | 4 => exact hF
    | _ + 5 => trivial
  · refine ⟨fun k ρ u hk hc hf hb hW hd => ?_, ?_⟩
    · have hk : k < 5 := hk
      obtain ⟨p', hp, hR, hG, hX⟩ := hW
      have hk3 := (hG.block _ (Array.getElem?_eq_some_iff.1 k3).1 (by omega) (by omega)).trans k3
      have e0 : ρ (.tmp 5) = .pointer (some ⟨w2.heap.size, 0, none⟩) := hb 5 (by kernel_rfl)
      clear hd hb
      have x0 := cell_of_row u w2.heap.size 0 _ _ _ hk3
      have x1 := cell_of_row u w2.heap.size 1 _ _ _ hk3
      have x2 := cell_of_row u w2.heap.size 2 _ _ _ hk3
      exact yield_value (w' := u) (keyA a b e) (by simp [go_sem, hc, hf, e0, x0, x1, x2]) ⟨rfl, ⟨p', by omega, hR, hG, hX⟩, Kept.refl _ _ _⟩
    refine ⟨fun k ρ u hk hc hf hb hW hd => ?_, ?_⟩
    · have hk : k < 5 := hk
      exact yield_move _ rfl ⟨hb 4 (by kernel_rfl), next _ _ hW, Kept.refl _ _ _⟩
    refine ⟨fun k ρ u hk hc hf hb hW hd => ?_, ?_⟩
    · have hk : k < 5 := hk
      have e0 : (ρ (.tmp 11)) = .pointer (some ⟨w.heap.size + 1, 0, none⟩) := hd.1 rfl rfl
      obtain ⟨p', hp, hR, hG, hX⟩ := hW
      clear hd hb
      refine yield_call 62 #[.pointer (some ⟨w.heap.size + 1, 0, none⟩), .int .i64 9] (by simp [go_sem, hc, hf, e0]) ?_
      refine (text_any _ _ _ _ hR (by omega) (by omega) (by omega)).mono ?_
      rintro e' w3 ⟨s, rfl, hs, p3, l3, l4, R3, G3⟩
      exact ⟨_, rfl, ⟨s, rfl, hs⟩, ⟨p3, by omega, R3, hG.trans (.of G3), hX.grown G3 (fun e => by injection e with e; omega)⟩, .of G3⟩
    refine ⟨fun k ρ u hk hc hf hb hW hd => ?_, ?_⟩
    · have hk : k < 5 := hk
      have e0 : ρ (.tmp 2) = .pointer (some ⟨w.heap.size, 0, none⟩) := hb 2 (by kernel_rfl)
      have e1 : ρ (.tmp 10) = keyA a b e := hd.1 rfl rfl
      obtain ⟨p', hp, hR, hG, x, y, z, hX⟩ := hW
      have f0 := frozen_of_row u w.heap.size 0 _ _ hX
      have f1 := frozen_of_row u w.heap.size 1 _ _ hX
      have f2 := frozen_of_row u w.heap.size 2 _ _ hX
      have z0 := cell_of_row u w.heap.size 0 _ _ _ hX
      have z1 := cell_of_row u w.heap.size 1 _ _ _ hX
      have z2 := cell_of_row u w.heap.size 2 _ _ _ hX
      have ks := key_stored (a := .int .i64 a) (b := .int .i64 b) (e := .int .i64 e) hX 0
      have hR2 := rd_key (a := a) (b := b) (e := e) hR hX (by omega)
      clear hd hb
      have hS := kept_store (g := w.heap.size + 1) ks.2
      unfold Yield
      simp [go_sem, hc, hf, e0, e1, f0, f1, f2, z0, z1, z2]
      exact ⟨⟨p', by omega, hR2, hG.trans hS, ⟨a, b, e, ks.1⟩⟩, hS⟩
    refine ⟨fun k ρ u hk hc hf hb hW hd => ?_, ?_⟩
    · have hk : k < 5 := hk
      exact yield_assign _ rfl ⟨hd.1 rfl rfl, next _ _ hW, Kept.refl _ _ _⟩
    trivial
  intro env w' hW hF
  obtain ⟨p', hp, hR, hG, a', b', f', hX⟩ := hW
  obtain ⟨s, y4, hs⟩ : IsS 200 (env 4) := hF 4 (of_decide_eq_true (by kernel_rfl))
  have T4 : Below w.heap.size w w' := T3.trans (hG.below (by omega) (by omega) T3.size)
  clear hF next
  have hr : List.range 13 = [0, 1, 2, 3, 4, 5, 6, 7, 8, 9, 10, 11, 12] := rfl
  unfold after
  simp only [List.size_toArray, List.length_cons, List.length_nil, Nat.reduceAdd, hr, List.map_cons, List.map_nil]
  simp [idxOf, List.findIdx?, List.findIdx?.go, y4]
  clear hr
  have v0 := cell_of_row w' w.heap.size 0 _ _ _ hX
  have v1 := cell_of_row w' w.heap.size 1 _ _ _ hX
  have v2 := cell_of_row w' w.heap.size 2 _ _ _ hX
  go_wp2
  exact bodyPost_ret (v := .tuple #[keyA a' b' f', .string s]) (by simp [results, Try.results40, go_sem, v0, v1, v2]) rfl ⟨_, _, _, _, rfl, hs, T4⟩
set_option maxHeartbeats 1000000 in
theorem drawSignNumber_any (A : Option Addr) (n c : Nat) (xs : List Int) (w : World) (h : Row .u8 w A n c xs) :
    Calls Try.prog 32 #[.slice A n c] w fun e' w' => ∃ a b e q : Int, e' = .returned (.tuple #[keyA a b e, .int .i64 q]) ∧ Below w.heap.size w w' := by
  have hb := h.byte
  have hr0 : (w.alloc (.cells #[.int .i64 0, .int .i64 0, .int .i64 0] 36)).heap[w.heap.size]? = some (.cells #[.int .i64 0, .int .i64 0, .int .i64 0] 36 (0, 0)) := alloc_new' rfl
  have b0 : Below w.heap.size w (w.alloc (.cells #[.int .i64 0, .int .i64 0, .int .i64 0] 36)) := (Below.refl _ _).alloc (Nat.le_refl _) _
  have hz0 : (w.alloc (.cells #[.int .i64 0, .int .i64 0, .int .i64 0] 36)).heap.size = w.heap.size + 1 := by simp
  go_enter Try.func32, Try.ntmps32
  go_wp2_with fail
  refine (open_any A n c xs _ (h.sl.alloc _) hb).mono ?_
  rintro e' w1 ⟨rfl, R1, B1⟩
  rw [hz0] at R1 B1
  have r1 := (B1.block w.heap.size (by omega)).trans hr0
  have T1 := b0.trans (B1.mono (Nat.le_succ _))
  clear B1 hr0 b0 h hb hz0
  go_wp2_with fail
  refine (drawSign_any (w.heap.size + 1) _ 9 _ R1 (by omega) (by omega) (by omega)).mono ?_
  rintro e' w2 ⟨a, b, e, rfl, p2, l1, l2, R2, G2⟩
  have r2 := rowAt r1 G2 (by omega)
  have T2 := T1.grown G2 T1.size (by rintro _ ⟨rfl⟩; omega)
  have hw1 := R1.lt
  have hw2 := R2.lt
  clear R1 r1 T1 G2
  have k3 : (w2.alloc (.cells #[.int .i64 a, .int .i64 b, .int .i64 e] 36)).heap[w2.heap.size]? = some (.cells #[.int .i64 a, .int .i64 b, .int .i64 e] 36 (0, 0)) := alloc_new' rfl
  have r3 := alloc_old (o := (.cells #[.int .i64 a, .int .i64 b, .int .i64 e] 36)) r2
  have T3 := T2.alloc T2.size (.cells #[.int .i64 a, .int .i64 b, .int .i64 e] 36)
  have R3 := R2.alloc (.cells #[.int .i64 a, .int .i64 b, .int .i64 e] 36)
  clear r2 T2 R2
  have HK := hid (And.intro k3 (And.intro r3 (And.intro T3 R3)))
  clear k3 r3 T3 R3
  go_wp2_with fail
  obtain ⟨k3, r3, T3, R3⟩ := HK.out
  clear HK
  revert k3 r3 T3 R3
  generalize (w2.alloc (.cells #[.int .i64 a, .int .i64 b, .int .i64 e] 36)) = V
  intro k3 r3 T3 R3
  have hkb : w.heap.size + 1 < w2.heap.size := by omega
  have hM : 0 ≤ max 1 (modF a b e) ∧ max 1 (modF a b e) ≤ 1000001 := by
    cases hv : keyV a b e with
    | false => rw [modF_no hv]; decide
    | true => rw [modF_yes hv]; have := mod_bound (keyV_iff.1 hv); omega
  have next : ∀ k w', (fun k w' => ∃ p', p' ≤ p2 + 20 * k ∧ Rd w' (w.heap.size + 1) p' ∧ Kept (w.heap.size + 1) w.heap.size V w' ∧ KeyAt w.heap.size 36 w') k w' → (fun k w' => ∃ p', p' ≤ p2 + 20 * k ∧ Rd w' (w.heap.size + 1) p' ∧ Kept (w.heap.size + 1) w.heap.size V w' ∧ KeyAt w.heap.size 36 w') (k + 1) w' := fun k w' ⟨p', hp, h⟩ => ⟨p', by omega, h⟩
  refine wp_region_steps (W := fun k w' => ∃ p', p' ≤ p2 + 20 * k ∧ Rd w' (w.heap.size + 1) p' ∧ Kept (w.heap.size + 1) w.heap.size V w' ∧ KeyAt w.heap.size 36 w') (Tr := fun a b => Kept (w.heap.size + 1) w.heap.size a b) (F := fun i v w' => match i with
      | 0 => v = keyA a b e
      | 1 => v = .pointer (some ⟨w.heap.size + 1, 0, none⟩)
      | 2 => v = keyA a b e
      | 3 => v = .int .i64 (modF a b e)
      | 4 => v = .int .i64 (max 1 (modF a b e))
      | 5 => IsI 0 3000000 v
      | 7 => IsI 0 3000000 v
      | _ => True) (by kernel_rfl) (by kernel_rfl) ?_ ?_ ?_ ?_
  · exact ⟨p2, by omega, R3.drewN 1, Kept.drew _ _ _, ⟨0, 0, 0, r3⟩⟩
  · intro k a b i v hW hT hF
    match i with
    | 0 => exact hF
    | 1 => exact hF
    | 2 => exact hF
    | 3 => exact hF
    | 4 => exact hF
    | 5 => exact hF
    | 6 => exact hF
    | 7 => exact hF
    | _ + 8 => trivial
  · refine ⟨fun k ρ u hk hc hf hb hW hd => ?_, ?_⟩
    · have hk : k < 8 := hk
      obtain ⟨p', hp, hR, hG, hX⟩ := hW
      have hk3 := (hG.block _ (Array.getElem?_eq_some_iff.1 k3).1 (by omega) (by omega)).trans k3
      have e0 : ρ (.tmp 5) = .pointer (some ⟨w2.heap.size, 0, none⟩) := hb 5 (by kernel_rfl)
      clear hd hb
      have x0 := cell_of_row u w2.heap.size 0 _ _ _ hk3
      have x1 := cell_of_row u w2.heap.size 1 _ _ _ hk3
      have x2 := cell_of_row u w2.heap.size 2 _ _ _ hk3
      exact yield_value (w' := u) (keyA a b e) (by simp [go_sem, hc, hf, e0, x0, x1, x2]) ⟨rfl, ⟨p', by omega, hR, hG, hX⟩, Kept.refl _ _ _⟩
    refine ⟨fun k ρ u hk hc hf hb hW hd => ?_, ?_⟩
    · have hk : k < 8 := hk
      exact yield_move _ rfl ⟨hb 4 (by kernel_rfl), next _ _ hW, Kept.refl _ _ _⟩
    refine ⟨fun k ρ u hk hc hf hb hW hd => ?_, ?_⟩
    · have hk : k < 8 := hk
      obtain ⟨p', hp, hR, hG, hX⟩ := hW
      have hk3 := (hG.block _ (Array.getElem?_eq_some_iff.1 k3).1 (by omega) (by omega)).trans k3
      have e0 : ρ (.tmp 5) = .pointer (some ⟨w2.heap.size, 0, none⟩) := hb 5 (by kernel_rfl)
      clear hd hb
      have x0 := cell_of_row u w2.heap.size 0 _ _ _ hk3
      have x1 := cell_of_row u w2.heap.size 1 _ _ _ hk3
      have x2 := cell_of_row u w2.heap.size 2 _ _ _ hk3
      exact yield_value (w' := u) (keyA a b e) (by simp [go_sem, hc, hf, e0, x0, x1, x2]) ⟨rfl, ⟨p', by omega, hR, hG, hX⟩, Kept.refl _ _ _⟩
    refine ⟨fun k ρ u hk hc hf hb hW hd => ?_, ?_⟩
    · have hk : k < 8 := hk
      have e0 : (ρ (.tmp 12)) = keyA a b e := hd.1 rfl rfl
      obtain ⟨p', hp, hR, hG, hX⟩ := hW
      clear hd hb
      refine yield_call 31 #[keyA a b e] (by simp [go_sem, hc, hf, e0]) ?_
      refine (modS_any a b e _).mono ?_
      rintro e' w3 ⟨rfl, y3⟩
      have G3 : u.grownBy w3 (some (w.heap.size + 1)) := grown_of_below y3.below _
      exact ⟨_, rfl, rfl, ⟨p', by omega, hR.below y3.below, hG.trans (.of G3), hX.grown G3 (fun e => by injection e with e; omega)⟩, .of G3⟩
    refine ⟨fun k ρ u hk hc hf hb hW hd => ?_, ?_⟩
    · have hk : k < 8 := hk
      have e0 : (ρ (.tmp 13)) = .int .i64 (modF a b e) := hd.1 rfl rfl
      clear hd hb
      refine yield_value (w' := u) (.int .i64 (max 1 (modF a b e))) ?_ ⟨rfl, next _ _ hW, Kept.refl _ _ _⟩
      simp [go_sem, hc, hf, e0]
      split <;> omega
    refine ⟨fun k ρ u hk hc hf hb hW hd => ?_, ?_⟩
    · have hk : k < 8 := hk
      have e0 : (ρ (.tmp 11)) = .pointer (some ⟨w.heap.size + 1, 0, none⟩) := hd.1 rfl rfl
      have e1 : (ρ (.tmp 14)) = .int .i64 (max 1 (modF a b e)) := hd.2.1 rfl rfl
      obtain ⟨p', hp, hR, hG, hX⟩ := hW
      clear hd hb
      refine yield_call 45 #[.pointer (some ⟨w.heap.size + 1, 0, none⟩), .int .i64 (max 1 (modF a b e))] (by simp [go_sem, hc, hf, e0, e1]) ?_
      refine (below_any _ _ _ _ hR (by omega) hM.1 hM.2).mono ?_
      rintro e' w3 ⟨q, rfl, q0, q1, p3, l3, l4, R3, G3⟩
      exact ⟨_, rfl, ⟨q, rfl, q0, q1⟩, ⟨p3, by omega, R3, hG.trans (.of G3), hX.grown G3 (fun e => by injection e with e; omega)⟩, .of G3⟩
    refine ⟨fun k ρ u hk hc hf hb hW hd => ?_, ?_⟩
    · have hk : k < 8 := hk
      have e0 : ρ (.tmp 2) = .pointer (some ⟨w.heap.size, 0, none⟩) := hb 2 (by kernel_rfl)
      have e1 : ρ (.tmp 10) = keyA a b e := hd.1 rfl rfl
      obtain ⟨p', hp, hR, hG, x, y, z, hX⟩ := hW
      have f0 := frozen_of_row u w.heap.size 0 _ _ hX
      have f1 := frozen_of_row u w.heap.size 1 _ _ hX
      have f2 := frozen_of_row u w.heap.size 2 _ _ hX
      have z0 := cell_of_row u w.heap.size 0 _ _ _ hX
      have z1 := cell_of_row u w.heap.size 1 _ _ _ hX
      have z2 := cell_of_row u w.heap.size 2 _ _ _ hX
      have ks := key_stored (a := .int .i64 a) (b := .int .i64 b) (e := .int .i64 e) hX 0
      have hR2 := rd_key (a := a) (b := b) (e := e) hR hX (by omega)
      clear hd hb
      have hS := kept_store (g := w.heap.size + 1) ks.2
      unfold Yield
      simp [go_sem, hc, hf, e0, e1, f0, f1, f2, z0, z1, z2]
      exact ⟨⟨p', by omega, hR2, hG.trans hS, ⟨a, b, e, ks.1⟩⟩, hS⟩
    refine ⟨fun k ρ u hk hc hf hb hW hd => ?_, ?_⟩
    · have hk : k < 8 := hk
      exact yield_assign _ rfl ⟨hd.1 rfl rfl, next _ _ hW, Kept.refl _ _ _⟩
    trivial
  intro env w' hW hF
  obtain ⟨p', hp, hR, hG, a', b', f', hX⟩ := hW
  obtain ⟨q, y7, _, _⟩ : IsI 0 3000000 (env 7) := hF 7 (of_decide_eq_true (by kernel_rfl))
  have T4 : Below w.heap.size w w' := T3.trans (hG.below (by omega) (by omega) T3.size)
  clear hF next
  have hr : List.range 16 = [0, 1, 2, 3, 4, 5, 6, 7, 8, 9, 10, 11, 12, 13, 14, 15] := rfl
  unfold after
  simp only [List.size_toArray, List.length_cons, List.length_nil, Nat.reduceAdd, hr, List.map_cons, List.map_nil]
  simp [idxOf, List.findIdx?, List.findIdx?.go, y7]
  clear hr
  have v0 := cell_of_row w' w.heap.size 0 _ _ _ hX
  have v1 := cell_of_row w' w.heap.size 1 _ _ _ hX
  have v2 := cell_of_row w' w.heap.size 2 _ _ _ hX
  go_wp2
  exact bodyPost_ret (v := .tuple #[keyA a' b' f', .int .i64 q]) (by simp [results, Try.results32, go_sem, v0, v1, v2]) rfl ⟨_, _, _, _, rfl, T4⟩
end Go.Proofs.Ythbjbodkbpbbaaa
