/- The contracts of the draw of a signature. -/
import Derived.Test.YtcpepjnmjiffcaaDrawText
import Derived.Test.YtcpepjnmjiffcaaSignText
namespace Go.Proofs.Ytcpepjnmjiffcaa
open Go.RowKit
set_option linter.unusedVariables false
set_option linter.unusedSimpArgs false
/-- A block that holds a signature whose text is short. -/
def SigAt (r : Nat) (w : World) : Prop := ∃ (s : ByteArray) (m x q : Int), w.heap[r]? = some (.cells #[.string s, .int .i64 m, .int .i64 x, .int .i64 q] 57 (0, 0)) ∧ s.size ≤ 200
theorem SigAt.grown {r : Nat} {w w' : World} (h : SigAt r w) {row : Option Nat} (hg : w.grownBy w' row) (hne : row ≠ some r) : SigAt r w' := by
  obtain ⟨s, m, x, q, hb, hs⟩ := h
  exact ⟨s, m, x, q, (hg.block r (Array.getElem?_eq_some_iff.1 hb).1 (fun e => hne e.symm)).trans hb, hs⟩
theorem sgV_size (a b e : Int) (s : ByteArray) : (sgV a b e s).1.1.size ≤ s.size := by
  cases ht : textV s with
  | false => rw [sgV_no1 ht]; exact Nat.zero_le _
  | true =>
    cases hv : keyV a b e with
    | false => rw [sgV_no2 hv]; exact Nat.zero_le _
    | true => rw [sgV_yes ht hv]; exact Nat.le_refl _
/-- One store into a block. -/
theorem set1 {w : World} {r i : Nat} {cs : Array Value} {v : Value} {T : TypeId} (hz : w.heap[r]? = some (.cells cs T (0, 0))) :
    (w.setCell ⟨r, i, none⟩ v).heap[r]? = some (.cells (cs.setIfInBounds i v) T (0, 0)) ∧ w.grownBy (w.setCell ⟨r, i, none⟩ v) (some r) := by
  have h1 := heap_setCell_same w r i _ T v hz
  refine ⟨h1, rfl, rfl, rfl, by simp, fun k _ hk' => ?_⟩
  have hk : k ≠ r := fun e => hk' (by rw [e])
  rw [heap_setCell_other _ ⟨r, i, none⟩ k _ hk]
/-- Where a store's row lies behind the reader's block. -/
theorem turn_rows {w w2 w' : World} {g p k r n : Nat} (hn : n ≤ r) (hw : w.heap.size ≤ r) (hg : g < r) (G : w.grownBy w2 (some g)) (R : Rd w2 g p) (S : w2.grownBy w' (some r)) : Rd w' g p ∧ w.grownBy w' (some g) :=
  ⟨R.grown S (by rintro _ ⟨rfl⟩; exact hg), S.os.trans G.os, S.tape.trans G.tape, S.output.trans G.output, Nat.le_trans G.size S.size,
    fun k hk hne => (S.block k (Nat.lt_of_lt_of_le hk G.size) (fun e => by injection e with e; omega)).trans (G.block k hk hne)⟩
set_option maxHeartbeats 4000000 in
theorem signed_any (g p : Nat) (w : World) (h : Rd w g p) (hp : p ≤ 60000) :
    Calls Try.prog 54 #[.pointer (some ⟨g, 0, none⟩)] w fun e' w' => ∃ (s : ByteArray) (m x q : Int), e' = .returned (sigA s m x q) ∧ s.size ≤ 200 ∧ Turn w w' g 0 (p + 200) := by
  have hgl := h.lt
  have hz0 : (w.alloc (.cells #[.string ⟨#[]⟩, .int .i64 0, .int .i64 0, .int .i64 0] 57)).heap[w.heap.size]? = some (.cells #[.string ⟨#[]⟩, .int .i64 0, .int .i64 0, .int .i64 0] 57 (0, 0)) := alloc_new' rfl
  have G0 : w.grownBy (w.alloc (.cells #[.string ⟨#[]⟩, .int .i64 0, .int .i64 0, .int .i64 0] 57)) (some g) := World.grownBy_alloc _ _ _
  have hzs : (w.alloc (.cells #[.string ⟨#[]⟩, .int .i64 0, .int .i64 0, .int .i64 0] 57)).heap.size = w.heap.size + 1 := by simp
  go_enter Try.func54, Try.ntmps54
  go_wp2_with fail
  refine (drawSign_any g p 0 _ (h.alloc _) (by omega) (by omega) (by omega)).mono ?_
  rintro e' w1 ⟨a, b, e, rfl, p1, l1, l2, R1, G1⟩
  have r1 := (G1.block _ (Array.getElem?_eq_some_iff.1 hz0).1 (fun e => by injection e with e; omega)).trans hz0
  have z1 : w.heap.size + 1 ≤ w1.heap.size := by have := G1.size; omega
  have G1 := G0.trans G1
  clear hz0 G0 h hzs
  go_wp2_with fail
  refine (text_any g p1 0 _ R1 (by omega) (by omega) (by omega)).mono ?_
  rintro e' w2 ⟨s, rfl, hs, p2, l3, l4, R2, G2⟩
  have r2 := (G2.block _ (Array.getElem?_eq_some_iff.1 r1).1 (fun e => by injection e with e; omega)).trans r1
  have z2 := Nat.le_trans z1 G2.size
  have G2 := G1.trans G2
  clear R1 r1 G1 z1
  obtain ⟨s', m, x, q, pp, hV⟩ : ∃ s' m x q pp, sgV a b e s = ((s', m, x, q), pp) := ⟨_, _, _, _, _, rfl⟩
  have CS := fun W => sgnS_any a b e s W (by omega)
  have hss := sgV_size a b e s
  rw [hV] at CS hss
  dsimp only [SigRes] at CS hss
  have hs' : s'.size ≤ 200 := by omega
  clear hV hss
  go_wp2_with fail
  refine (CS _).mono ?_
  rintro e' w3 ⟨rfl, b3⟩
  have r3 := (b3.block _ (Array.getElem?_eq_some_iff.1 r2).1).trans r2
  have z3 := Nat.le_trans z2 b3.size
  have G3 := G2.trans (grown_of_below b3 (some g))
  have R3 := (R2.below b3).alloc (.cells #[.string s', .int .i64 m, .int .i64 x, .int .i64 q] 57)
  have k3 : (w3.alloc (.cells #[.string s', .int .i64 m, .int .i64 x, .int .i64 q] 57)).heap[w3.heap.size]? = some (.cells #[.string s', .int .i64 m, .int .i64 x, .int .i64 q] 57 (0, 0)) := alloc_new' rfl
  have r3 := alloc_old (o := .cells #[.string s', .int .i64 m, .int .i64 x, .int .i64 q] 57) r3
  have G3 := G3.trans (World.grownBy_alloc w3 (.cells #[.string s', .int .i64 m, .int .i64 x, .int .i64 q] 57) (some g))
  clear CS R2 r2 G2 b3 z2
  have HK := hid (And.intro k3 (And.intro r3 (And.intro R3 G3)))
  clear k3 r3 R3 G3
  go_wp2_with fail
  obtain ⟨k3, r3, R3, G3⟩ := HK.out
  clear HK
  revert k3 r3 R3 G3
  generalize (w3.alloc (.cells #[.string s', .int .i64 m, .int .i64 x, .int .i64 q] 57)) = V
  intro k3 r3 R3 G3
  refine (pick_any g p2 6 _ R3 (by omega) (by omega) (by omega)).mono ?_
  rintro e' w4 ⟨c, rfl, c0, c1, R4, G4⟩
  have k4 := (G4.block _ (Array.getElem?_eq_some_iff.1 k3).1 (fun e => by injection e with e; omega)).trans k3
  have r4 := (G4.block _ (Array.getElem?_eq_some_iff.1 r3).1 (fun e => by injection e with e; omega)).trans r3
  have G4 := G3.trans G4
  generalize w3.heap.size = kb at *
  have hkb : g < kb ∧ w.heap.size < kb := ⟨by omega, by omega⟩
  clear R3 k3 r3 G3 z3
  have hne : ¬ kb = w.heap.size := by omega
  have hne2 : ¬ w.heap.size = kb := by omega
  by_cases e0 : c = 0
  · subst e0
    have j0 := frozen_of_row w4 kb 0 _ _ k4
    have j1 := frozen_of_row w4 kb 1 _ _ k4
    have j2 := frozen_of_row w4 kb 2 _ _ k4
    have j3 := frozen_of_row w4 kb 3 _ _ k4
    have i0 := cell_of_row w4 kb 0 _ _ _ k4
    have i1 := cell_of_row w4 kb 1 _ _ _ k4
    have i2 := cell_of_row w4 kb 2 _ _ _ k4
    have i3 := cell_of_row w4 kb 3 _ _ _ k4
    have f0 := frozen_of_row w4 w.heap.size 0 _ _ r4
    have f1 := frozen_of_row w4 w.heap.size 1 _ _ r4
    have f2 := frozen_of_row w4 w.heap.size 2 _ _ r4
    have f3 := frozen_of_row w4 w.heap.size 3 _ _ r4
    have y0 := cell_of_row w4 w.heap.size 0 _ _ _ r4
    have y1 := cell_of_row w4 w.heap.size 1 _ _ _ r4
    have y2 := cell_of_row w4 w.heap.size 2 _ _ _ r4
    have y3 := cell_of_row w4 w.heap.size 3 _ _ _ r4
    go_wp2_with fail
    have s1 := set1 (i := 0) (v := .string ⟨#[111, 116, 104, 101, 114]⟩) k4
    have hRG1 := turn_rows (n := 0) (k := 0) (Nat.zero_le _) (Nat.le_of_lt hkb.2) hkb.1 G4 R4 s1.2
    have r5 := (s1.2.block _ (Array.getElem?_eq_some_iff.1 r4).1 (fun e => by injection e with e; omega)).trans r4
    have ks := row4 (a := .string ⟨#[111, 116, 104, 101, 114]⟩) (b := .int .i64 m) (c := .int .i64 x) (d := .int .i64 q) r5
    have hRG := turn_rows (n := 0) (k := 0) (Nat.zero_le _) (Nat.le_refl _) hgl hRG1.2 hRG1.1 ks.2
    revert ks hRG
    generalize (((((w4.setCell ⟨kb, 0, none⟩ (.string ⟨#[111, 116, 104, 101, 114]⟩)).setCell ⟨w.heap.size, 0, none⟩ (.string ⟨#[111, 116, 104, 101, 114]⟩)).setCell ⟨w.heap.size, 1, none⟩ (.int .i64 m)).setCell ⟨w.heap.size, 2, none⟩ (.int .i64 x)).setCell ⟨w.heap.size, 3, none⟩ (.int .i64 q)) = U
    intro ks hRG
    have v0 := cell_of_row U w.heap.size 0 _ _ _ ks.1
    have v1 := cell_of_row U w.heap.size 1 _ _ _ ks.1
    have v2 := cell_of_row U w.heap.size 2 _ _ _ ks.1
    have v3 := cell_of_row U w.heap.size 3 _ _ _ ks.1
    exact bodyPost_ret (v := sigA ⟨#[111, 116, 104, 101, 114]⟩ m x q) (by simp [results, Try.results54, go_sem, v0, v1, v2, v3]) rfl ⟨_, _, _, _, rfl, by decide, p2 + 1, Nat.zero_le _, by omega, hRG.1, hRG.2⟩
  by_cases e1 : c = 1
  · subst e1
    have i0 := cell_of_row w4 kb 0 _ _ _ k4
    have i1 := cell_of_row w4 kb 1 _ _ _ k4
    have i2 := cell_of_row w4 kb 2 _ _ _ k4
    have i3 := cell_of_row w4 kb 3 _ _ _ k4
    go_wp2_with fail
    have next : ∀ k w', (fun k w' => ∃ p', p' ≤ p2 + 1 + k ∧ Rd w' g p' ∧ Kept g kb w4 w' ∧ SigAt kb w') k w' → (fun k w' => ∃ p', p' ≤ p2 + 1 + k ∧ Rd w' g p' ∧ Kept g kb w4 w' ∧ SigAt kb w') (k + 1) w' := fun k w' ⟨p', hp, h⟩ => ⟨p', by omega, h⟩
    refine wp_region_steps (W := fun k w' => ∃ p', p' ≤ p2 + 1 + k ∧ Rd w' g p' ∧ Kept g kb w4 w' ∧ SigAt kb w') (Tr := fun a b => Kept g kb a b) (F := fun i v w' => match i with
        | 0 => v = .pointer (some ⟨kb, 3, none⟩)
        | 1 => ∃ q : Int, v = .int .i64 q
        | 2 => IsLit g kb 3 (IsI (-1) 100000000) 3 v w'
        | 3 => v = .pointer (some ⟨g, 0, none⟩)
        | 4 => IsI 0 2 v
        | 5 => IsAt g kb (IsI (-1) 100000000) v w'
        | 6 => IsI (-1) 100000000 v
        | 7 => ∃ q : Int, v = .int .i64 q
        | 8 => v = .pointer (some ⟨kb, 3, none⟩)
        | _ => True) (by kernel_rfl) (by kernel_rfl) ?_ ?_ ?_ ?_
    · exact ⟨p2 + 1, by omega, R4.drewN 1, Kept.drew _ _ _, s', m, x, q, k4, hs'⟩
    · intro k a b i v hW hT hF
      match i with
      | 0 => exact hF
      | 1 => exact hF
      | 2 => exact IsLit.kept hF hT
      | 3 => exact hF
      | 4 => exact hF
      | 5 => exact IsAt.kept hF hT
      | 6 => exact hF
      | 7 => exact hF
      | 8 => exact hF
      | 9 => exact hF
      | _ + 10 => trivial
    · refine ⟨fun k ρ u hk hc hf hb hW hd => ?_, ?_⟩
      · have hk : k < 10 := hk
        have e0 : ρ (.tmp 3) = .pointer (some ⟨kb, 0, none⟩) := hb 3 (by kernel_rfl)
        clear hd hb
        exact yield_value (w' := u) _ (by simp [go_sem, hc, hf, e0]) ⟨rfl, next _ _ hW, Kept.refl _ _ _⟩
      refine ⟨fun k ρ u hk hc hf hb hW hd => ?_, ?_⟩
      · have hk : k < 10 := hk
        have e0 : ρ (.tmp 20) = .pointer (some ⟨kb, 3, none⟩) := hd.1 rfl rfl
        clear hd hb
        have hW' := next _ _ hW
        obtain ⟨p', hp, hR, hG, s1, m1, x1, q1, hX, _⟩ := hW
        have x3 := cell_of_row u kb 3 _ _ _ hX
        exact yield_value (w' := u) (.int .i64 q1) (by simp [go_sem, hc, hf, e0, x3]) ⟨⟨_, rfl⟩, hW', Kept.refl _ _ _⟩
      refine ⟨fun k ρ u hk hc hf hb hW hd => ?_, ?_⟩
      · have hk : k < 10 := hk
        obtain ⟨p', hp, hR, hG, hX⟩ := hW
        have hz := hG.size
        have hkz := (Array.getElem?_eq_some_iff.1 k4).1
        clear hd hb
        refine yield_value (w' := u.alloc (.cells #[.int .i64 1, .int .i64 (-1), .int .i64 100000000] 3)) (.slice (some ⟨u.heap.size, 0, none⟩) 3 3) (by simp [go_sem, hc, hf]) ⟨⟨u.heap.size, [.int .i64 1, .int .i64 (-1), .int .i64 100000000], rfl, by have := hR.lt; omega, by omega, alloc_new rfl, rfl, ?_⟩, ⟨p', by omega, hR.alloc _, hG.trans (Kept.alloc _ _ _ _), hX.grown (World.grownBy_alloc u _ none) (by simp)⟩, Kept.alloc _ _ _ _⟩
        simp only [List.forall_mem_cons]
        exact ⟨⟨_, rfl, by omega, by omega⟩, ⟨_, rfl, by omega, by omega⟩, ⟨_, rfl, by omega, by omega⟩, fun _ h => by cases h⟩
      refine ⟨fun k ρ u hk hc hf hb hW hd => ?_, ?_⟩
      · have hk : k < 10 := hk
        exact yield_move _ rfl ⟨hb 0 (by kernel_rfl), next _ _ hW, Kept.refl _ _ _⟩
      refine ⟨fun k ρ u hk hc hf hb hW hd => ?_, ?_⟩
      · have hk : k < 10 := hk
        have e0 : (ρ (.tmp 23)) = .pointer (some ⟨g, 0, none⟩) := hd.1 rfl rfl
        obtain ⟨p', hp, hR, hG, hX⟩ := hW
        clear hd hb
        refine yield_call 46 #[.pointer (some ⟨g, 0, none⟩), .int .i64 3] (by simp [go_sem, hc, hf, e0]) ?_
        refine (pick_any _ _ _ _ hR (by omega) (by omega) (by omega)).mono ?_
        rintro e w3 ⟨q, rfl, q0, q1, R3, G3⟩
        exact ⟨_, rfl, ⟨q, rfl, q0, by omega⟩, ⟨p' + 1, by omega, R3, hG.trans (.of G3), hX.grown G3 (fun e => by injection e with e; omega)⟩, .of G3⟩
      refine ⟨fun k ρ u hk hc hf hb hW hd => ?_, ?_⟩
      · have hk : k < 10 := hk
        have e0 : IsLit g kb 3 (IsI (-1) 100000000) 3 (ρ (.tmp 22)) u := hd.1 rfl rfl
        obtain ⟨q1, e1, l1, u1⟩ : IsI 0 2 (ρ (.tmp 24)) := hd.2.1 rfl rfl
        clear hd hb
        obtain ⟨B, eB, hA⟩ := IsLit.at e0 (q := q1) (by omega) (by omega)
        clear e0
        exact yield_value (w' := u) _ (by simp [go_sem, hc, hf, eB, e1, IntWalk.i64_in, show q1 < 3 by omega, l1]) ⟨hA, next _ _ hW, Kept.refl _ _ _⟩
      refine ⟨fun k ρ u hk hc hf hb hW hd => ?_, ?_⟩
      · have hk : k < 10 := hk
        have e0 : IsAt g kb (IsI (-1) 100000000) (ρ (.tmp 25)) u := hd.1 rfl rfl
        obtain ⟨B, j, x, eB, _, _, hx, hq⟩ := e0
        clear hd hb
        obtain ⟨q, rfl, hq⟩ := hq
        exact yield_value (w' := u) _ (by simp [go_sem, hc, hf, eB, hx]) ⟨⟨q, rfl, hq⟩, next _ _ hW, Kept.refl _ _ _⟩
      refine ⟨fun k ρ u hk hc hf hb hW hd => ?_, ?_⟩
      · have hk : k < 10 := hk
        obtain ⟨q1, e0⟩ : ∃ q : Int, ρ (.tmp 21) = .int .i64 q := hd.1 rfl rfl
        obtain ⟨q2, e1, _, _⟩ : IsI (-1) 100000000 (ρ (.tmp 26)) := hd.2.1 rfl rfl
        clear hd hb
        exact yield_value (w' := u) (.int .i64 (IntKind.i64.wrap (q1 + q2))) (by simp [go_sem, hc, hf, e0, e1]) ⟨⟨_, rfl⟩, next _ _ hW, Kept.refl _ _ _⟩
      refine ⟨fun k ρ u hk hc hf hb hW hd => ?_, ?_⟩
      · have hk : k < 10 := hk
        have e0 : ρ (.tmp 3) = .pointer (some ⟨kb, 0, none⟩) := hb 3 (by kernel_rfl)
        clear hd hb
        exact yield_value (w' := u) _ (by simp [go_sem, hc, hf, e0]) ⟨rfl, next _ _ hW, Kept.refl _ _ _⟩
      refine ⟨fun k ρ u hk hc hf hb hW hd => ?_, ?_⟩
      · have hk : k < 10 := hk
        have e0 : ρ (.tmp 28) = .pointer (some ⟨kb, 3, none⟩) := hd.1 rfl rfl
        obtain ⟨q1, e1⟩ : ∃ q : Int, ρ (.tmp 27) = .int .i64 q := hd.2.1 rfl rfl
        clear hd hb
        obtain ⟨p', hp, hR, hG, s1, m1, x1, q2, hX, hs1⟩ := hW
        have x3 := cell_of_row u kb 3 _ _ _ hX
        have f3 := frozen_of_row u kb 3 _ _ hX
        have st := set1 (i := 3) (v := .int .i64 q1) hX
        unfold Yield
        simp [go_sem, hc, hf, e0, e1, f3, x3]
        exact ⟨⟨p', by omega, hR.grown st.2 (by rintro _ ⟨rfl⟩; exact hkb.1), hG.trans (kept_store st.2), ⟨s1, m1, x1, q1, by simpa using st.1, hs1⟩⟩, kept_store st.2⟩
      trivial
    intro env w' hW hF
    obtain ⟨p', hp, hR, hG, s1, m1, x1, q1, hX, hs1⟩ := hW
    have r5 := (hG.block _ (Array.getElem?_eq_some_iff.1 r4).1 (by omega) (by omega)).trans r4
    have G5 : w.grownBy w' (some g) := ⟨hG.os.trans G4.os, hG.tape.trans G4.tape, hG.output.trans G4.output, Nat.le_trans G4.size hG.size, fun k hk hne => (hG.block k (Nat.lt_of_lt_of_le hk G4.size) (fun e => hne (by rw [e])) (by omega)).trans (G4.block k hk hne)⟩
    replace hp : p' ≤ p2 + 11 := by simpa using hp
    clear hF next
    have hr : List.range 38 = [0, 1, 2, 3, 4, 5, 6, 7, 8, 9, 10, 11, 12, 13, 14, 15, 16, 17, 18, 19, 20, 21, 22, 23, 24, 25, 26, 27, 28, 29, 30, 31, 32, 33, 34, 35, 36, 37] := rfl
    unfold after
    simp only [List.size_toArray, List.length_cons, List.length_nil, Nat.reduceAdd, hr, List.map_cons, List.map_nil]
    simp [idxOf, List.findIdx?, List.findIdx?.go]
    clear hr
    have j0 := frozen_of_row w' kb 0 _ _ hX
    have j1 := frozen_of_row w' kb 1 _ _ hX
    have j2 := frozen_of_row w' kb 2 _ _ hX
    have j3 := frozen_of_row w' kb 3 _ _ hX
    have i0 := cell_of_row w' kb 0 _ _ _ hX
    have i1 := cell_of_row w' kb 1 _ _ _ hX
    have i2 := cell_of_row w' kb 2 _ _ _ hX
    have i3 := cell_of_row w' kb 3 _ _ _ hX
    have f0 := frozen_of_row w' w.heap.size 0 _ _ r5
    have f1 := frozen_of_row w' w.heap.size 1 _ _ r5
    have f2 := frozen_of_row w' w.heap.size 2 _ _ r5
    have f3 := frozen_of_row w' w.heap.size 3 _ _ r5
    have y0 := cell_of_row w' w.heap.size 0 _ _ _ r5
    have y1 := cell_of_row w' w.heap.size 1 _ _ _ r5
    have y2 := cell_of_row w' w.heap.size 2 _ _ _ r5
    have y3 := cell_of_row w' w.heap.size 3 _ _ _ r5
    go_wp2_with fail
    have ks := row4 (a := .string s1) (b := .int .i64 m1) (c := .int .i64 x1) (d := .int .i64 q1) r5
    have hRG := turn_rows (n := 0) (k := 0) (Nat.zero_le _) (Nat.le_refl _) hgl G5 hR ks.2
    revert ks hRG
    generalize ((((w'.setCell ⟨w.heap.size, 0, none⟩ (.string s1)).setCell ⟨w.heap.size, 1, none⟩ (.int .i64 m1)).setCell ⟨w.heap.size, 2, none⟩ (.int .i64 x1)).setCell ⟨w.heap.size, 3, none⟩ (.int .i64 q1)) = U
    intro ks hRG
    have v0 := cell_of_row U w.heap.size 0 _ _ _ ks.1
    have v1 := cell_of_row U w.heap.size 1 _ _ _ ks.1
    have v2 := cell_of_row U w.heap.size 2 _ _ _ ks.1
    have v3 := cell_of_row U w.heap.size 3 _ _ _ ks.1
    exact bodyPost_ret (v := sigA s1 m1 x1 q1) (by simp [results, Try.results54, go_sem, v0, v1, v2, v3]) rfl ⟨_, _, _, _, rfl, hs1, p', Nat.zero_le _, by omega, hRG.1, hRG.2⟩
  by_cases e2 : c = 2
  · subst e2
    go_wp2_with fail
    refine (pick_any g (p2 + 1) 4 _ (R4.alloc _) (by omega) (by omega) (by omega)).mono ?_
    rintro e' w5 ⟨r, rfl, d0, d1, R5, G5⟩
    obtain ⟨v, hv, cv⟩ := lit_at (B := w4.heap.size) (L := [99, 0, 1000001, 3233]) (alloc_new rfl) G5 (by have := R4.lt; omega) d0 (by simpa using d1)
    clear hv
    have G6 : w4.grownBy w5 (some g) := (World.grownBy_alloc _ _ _).trans G5
    have k5 := (G6.block _ (Array.getElem?_eq_some_iff.1 k4).1 (fun e => by injection e with e; omega)).trans k4
    have r5 := (G6.block _ (Array.getElem?_eq_some_iff.1 r4).1 (fun e => by injection e with e; omega)).trans r4
    have G7 := G4.trans G6
    clear G5 G6 G4 R4 k4 r4
    have j0 := frozen_of_row w5 kb 0 _ _ k5
    have j1 := frozen_of_row w5 kb 1 _ _ k5
    have j2 := frozen_of_row w5 kb 2 _ _ k5
    have j3 := frozen_of_row w5 kb 3 _ _ k5
    have i0 := cell_of_row w5 kb 0 _ _ _ k5
    have i1 := cell_of_row w5 kb 1 _ _ _ k5
    have i2 := cell_of_row w5 kb 2 _ _ _ k5
    have i3 := cell_of_row w5 kb 3 _ _ _ k5
    have f0 := frozen_of_row w5 w.heap.size 0 _ _ r5
    have f1 := frozen_of_row w5 w.heap.size 1 _ _ r5
    have f2 := frozen_of_row w5 w.heap.size 2 _ _ r5
    have f3 := frozen_of_row w5 w.heap.size 3 _ _ r5
    have y0 := cell_of_row w5 w.heap.size 0 _ _ _ r5
    have y1 := cell_of_row w5 w.heap.size 1 _ _ _ r5
    have y2 := cell_of_row w5 w.heap.size 2 _ _ _ r5
    have y3 := cell_of_row w5 w.heap.size 3 _ _ _ r5
    go_wp2_with fail
    have s1 := set1 (i := 1) (v := .int .i64 v) k5
    have hRG1 := turn_rows (n := 0) (k := 0) (Nat.zero_le _) (Nat.le_of_lt hkb.2) hkb.1 G7 R5 s1.2
    have r6 := (s1.2.block _ (Array.getElem?_eq_some_iff.1 r5).1 (fun e => by injection e with e; omega)).trans r5
    have ks := row4 (a := .string s') (b := .int .i64 v) (c := .int .i64 x) (d := .int .i64 q) r6
    have hRG := turn_rows (n := 0) (k := 0) (Nat.zero_le _) (Nat.le_refl _) hgl hRG1.2 hRG1.1 ks.2
    revert ks hRG
    generalize (((((w5.setCell ⟨kb, 1, none⟩ (.int .i64 v)).setCell ⟨w.heap.size, 0, none⟩ (.string s')).setCell ⟨w.heap.size, 1, none⟩ (.int .i64 v)).setCell ⟨w.heap.size, 2, none⟩ (.int .i64 x)).setCell ⟨w.heap.size, 3, none⟩ (.int .i64 q)) = U
    intro ks hRG
    have v0 := cell_of_row U w.heap.size 0 _ _ _ ks.1
    have v1 := cell_of_row U w.heap.size 1 _ _ _ ks.1
    have v2 := cell_of_row U w.heap.size 2 _ _ _ ks.1
    have v3 := cell_of_row U w.heap.size 3 _ _ _ ks.1
    exact bodyPost_ret (v := sigA s' v x q) (by simp [results, Try.results54, go_sem, v0, v1, v2, v3]) rfl ⟨_, _, _, _, rfl, hs', p2 + 1 + 1, Nat.zero_le _, by omega, hRG.1, hRG.2⟩
  · have t0 : (c == 0) = false := by simpa using e0
    have t1 : (c == 1) = false := by simpa using e1
    have t2 : (c == 2) = false := by simpa using e2
    have j0 := frozen_of_row w4 kb 0 _ _ k4
    have j1 := frozen_of_row w4 kb 1 _ _ k4
    have j2 := frozen_of_row w4 kb 2 _ _ k4
    have j3 := frozen_of_row w4 kb 3 _ _ k4
    have i0 := cell_of_row w4 kb 0 _ _ _ k4
    have i1 := cell_of_row w4 kb 1 _ _ _ k4
    have i2 := cell_of_row w4 kb 2 _ _ _ k4
    have i3 := cell_of_row w4 kb 3 _ _ _ k4
    have f0 := frozen_of_row w4 w.heap.size 0 _ _ r4
    have f1 := frozen_of_row w4 w.heap.size 1 _ _ r4
    have f2 := frozen_of_row w4 w.heap.size 2 _ _ r4
    have f3 := frozen_of_row w4 w.heap.size 3 _ _ r4
    have y0 := cell_of_row w4 w.heap.size 0 _ _ _ r4
    have y1 := cell_of_row w4 w.heap.size 1 _ _ _ r4
    have y2 := cell_of_row w4 w.heap.size 2 _ _ _ r4
    have y3 := cell_of_row w4 w.heap.size 3 _ _ _ r4
    go_wp2_with fail
    have ks := row4 (a := .string s') (b := .int .i64 m) (c := .int .i64 x) (d := .int .i64 q) r4
    have hRG := turn_rows (n := 0) (k := 0) (Nat.zero_le _) (Nat.le_refl _) hgl G4 R4 ks.2
    revert ks hRG
    generalize ((((w4.setCell ⟨w.heap.size, 0, none⟩ (.string s')).setCell ⟨w.heap.size, 1, none⟩ (.int .i64 m)).setCell ⟨w.heap.size, 2, none⟩ (.int .i64 x)).setCell ⟨w.heap.size, 3, none⟩ (.int .i64 q)) = U
    intro ks hRG
    have v0 := cell_of_row U w.heap.size 0 _ _ _ ks.1
    have v1 := cell_of_row U w.heap.size 1 _ _ _ ks.1
    have v2 := cell_of_row U w.heap.size 2 _ _ _ ks.1
    have v3 := cell_of_row U w.heap.size 3 _ _ _ ks.1
    exact bodyPost_ret (v := sigA s' m x q) (by simp [results, Try.results54, go_sem, v0, v1, v2, v3]) rfl ⟨_, _, _, _, rfl, hs', p2 + 1, Nat.zero_le _, by omega, hRG.1, hRG.2⟩
end Go.Proofs.Ytcpepjnmjiffcaa
