/- The contracts of the draws of words and of handles. -/
import Derived.Test.YtlfjnaeepblhiaaFacts
import Derived.Test.YtlfjnaeepblhiaaHandle
namespace Go.Proofs.Ytlfjnaeepblhiaa
open Go.RowKit
set_option linter.unusedVariables false
set_option linter.unusedSimpArgs false
theorem litS_at {W W' : World} {B g : Nat} {L : List ByteArray} {T : TypeId} (hb : W.heap[B]? = some (.cells (L.map Value.string).toArray T (0, 0))) (hg : W.grownBy W' (some g)) (hne : B ≠ g) {q : Int} (h0 : 0 ≤ q) (h1 : q < L.length) :
    ∃ x, x ∈ L ∧ W'.cell? ⟨B, q.toNat, none⟩ = some (.string x) := by
  have hlt := (Array.getElem?_eq_some_iff.1 hb).1
  have hq : q.toNat < L.length := by omega
  refine ⟨L[q.toNat], by simp, ?_⟩
  rw [cell_of_row W' B q.toNat _ T (0, 0) ((hg.block B hlt (by simpa using hne)).trans hb)]
  simp [hq]
theorem Turn.mk' {w w' : World} {g p p' k : Nat} (h1 : p ≤ p') (h2 : p' ≤ p + k) (R : Rd w' g p') (G : w.grownBy w' (some g)) : Turn w w' g p k := ⟨p', h1, h2, R, G⟩
theorem kept_store {g r : Nat} {a b : World} (h : a.grownBy b (some r)) : Kept g r a b := ⟨h.os, h.tape, h.output, h.size, fun k hk _ h2 => h.block k hk (fun e => h2 (by injection e with e))⟩
theorem kept_turn {g r : Nat} {w W0 w' : World} (G : w.grownBy W0 (some g)) (K : Kept g r W0 w') (hr : w.heap.size ≤ r) : w.grownBy w' (some g) :=
  ⟨K.os.trans G.os, K.tape.trans G.tape, K.output.trans G.output, Nat.le_trans G.size K.size, fun k hk hne => (K.block k (Nat.lt_of_lt_of_le hk G.size) (fun e => hne (by rw [e])) (by omega)).trans (G.block k hk hne)⟩
/-- Two stores into a block of two cells. -/
theorem row2 {w : World} {r : Nat} {x y a b : Value} {T : TypeId} (hz : w.heap[r]? = some (.cells #[x, y] T (0, 0))) :
    ((w.setCell ⟨r, 0, none⟩ a).setCell ⟨r, 1, none⟩ b).heap[r]? = some (.cells #[a, b] T (0, 0)) ∧ w.grownBy ((w.setCell ⟨r, 0, none⟩ a).setCell ⟨r, 1, none⟩ b) (some r) := by
  have h1 := heap_setCell_same w r 0 _ T a hz
  have h2 := heap_setCell_same _ r 1 _ T b h1
  refine ⟨by simpa using h2, rfl, rfl, rfl, by simp, fun k _ hk' => ?_⟩
  have hk : k ≠ r := fun e => hk' (by rw [e])
  rw [heap_setCell_other _ ⟨r, 1, none⟩ k _ hk, heap_setCell_other _ ⟨r, 0, none⟩ k _ hk]
def IsHd (v : Value) : Prop := ∃ a b : ByteArray, v = hdA a b ∧ a.size ≤ 200 ∧ b.size ≤ 200
def HdAt (r : Nat) (T : TypeId) (w : World) : Prop := ∃ a b : ByteArray, w.heap[r]? = some (.cells #[.string a, .string b] T (0, 0)) ∧ a.size ≤ 200 ∧ b.size ≤ 200
theorem HdAt.grown {r : Nat} {T : TypeId} {w w' : World} (h : HdAt r T w) {row : Option Nat} (hg : w.grownBy w' row) (hne : row ≠ some r) : HdAt r T w' := by
  obtain ⟨a, b, hb, h1, h2⟩ := h
  exact ⟨a, b, (hg.block r (Array.getElem?_eq_some_iff.1 hb).1 (fun e => hne e.symm)).trans hb, h1, h2⟩
theorem word_any (g p : Nat) (n : Int) (w : World) (h : Rd w g p) (hp : p ≤ 90000) (h1 : 0 ≤ n) (h2 : n ≤ 1048576) :
    Calls Try.prog 81 #[.pointer (some ⟨g, 0, none⟩), .int .i64 n] w fun e w' => ∃ s : ByteArray, e = .returned (.string s) ∧ s.size ≤ 9 ∧ Turn w w' g p 2 := by
  go_enter Try.func81, Try.ntmps81
  go_wp2_with fail
  refine (odd_any g p n _ h (by omega) h1 h2).mono ?_
  rintro e' w1 ⟨o, rfl, p1, q0, q1, R1, G1⟩
  have hgl := R1.lt
  cases o with
  | true =>
    go_wp2_with fail
    refine (pick_any g p1 5 _ (R1.alloc _) (by omega) (by omega) (by omega)).mono ?_
    rintro e' w2 ⟨q, rfl, t0, t1, R2, G2⟩
    obtain ⟨x, hx, cx⟩ := litS_at (B := w1.heap.size) (L := [⟨#[]⟩, ⟨#[49, 97]⟩, ⟨#[65]⟩, ⟨#[97, 32, 98]⟩, ⟨#[97, 98, 99, 100, 101, 102, 103, 104, 105]⟩]) (alloc_new' rfl) G2 (by omega) t0 (by simpa using t1)
    have hs : x.size ≤ 9 := by simp at hx; rcases hx with rfl | rfl | rfl | rfl | rfl <;> decide
    have T : Turn w w2 g p 2 := Turn.mk' (p' := p1 + 1) (by omega) (by omega) R2 (G1.trans ((World.grownBy_alloc _ _ _).trans G2))
    clear hx R1 R2 G1 G2 h
    go_wp2_with fail
    go_ret
    exact ⟨x, rfl, hs, T⟩
  | false =>
    go_wp2_with fail
    refine (pick_any g p1 6 _ (R1.alloc _) (by omega) (by omega) (by omega)).mono ?_
    rintro e' w2 ⟨q, rfl, t0, t1, R2, G2⟩
    obtain ⟨x, hx, cx⟩ := litS_at (B := w1.heap.size) (L := [⟨#[97, 110, 110]⟩, ⟨#[98, 111, 98]⟩, ⟨#[114, 101, 100]⟩, ⟨#[115, 101, 97]⟩, ⟨#[107, 49]⟩, ⟨#[107, 50]⟩]) (alloc_new' rfl) G2 (by omega) t0 (by simpa using t1)
    have hs : x.size ≤ 9 := by simp at hx; rcases hx with rfl | rfl | rfl | rfl | rfl | rfl <;> decide
    have T : Turn w w2 g p 2 := Turn.mk' (p' := p1 + 1) (by omega) (by omega) R2 (G1.trans ((World.grownBy_alloc _ _ _).trans G2))
    clear hx R1 R2 G1 G2 h
    go_wp2_with fail
    go_ret
    exact ⟨x, rfl, hs, T⟩
set_option maxRecDepth 4000 in
theorem handle_any (g p : Nat) (n : Int) (w : World) (h : Rd w g p) (hp : p ≤ 80000) (h1 : 0 ≤ n) (h2 : n ≤ 1048576) :
    Calls Try.prog 58 #[.pointer (some ⟨g, 0, none⟩), .int .i64 n] w fun e w' => ∃ a b : ByteArray, e = .returned (hdA a b) ∧ a.size ≤ 200 ∧ b.size ≤ 200 ∧ Turn w w' g 0 (p + 40) := by
  have hgr := h.lt
  go_enter Try.func58, Try.ntmps58
  go_wp2
  have R0 := h.alloc (.cells #[.string ⟨#[]⟩, .string ⟨#[]⟩] 27)
  have hz0 : HdAt w.heap.size 27 (w.alloc (.cells #[.string ⟨#[]⟩, .string ⟨#[]⟩] 27)) := ⟨_, _, alloc_new' rfl, by decide, by decide⟩
  have G0 : w.grownBy (w.alloc (.cells #[.string ⟨#[]⟩, .string ⟨#[]⟩] 27)) (some g) := World.grownBy_alloc _ _ _
  generalize hW0 : w.alloc (.cells #[.string ⟨#[]⟩, .string ⟨#[]⟩] 27) = W0 at *
  have hzs : w.heap.size < W0.heap.size := by rw [← hW0]; simp
  clear hW0
  have hne : (some g : Option Nat) ≠ some w.heap.size := by intro e; injection e with e; omega
  have next : ∀ k w', (fun k w' => ∃ p', p' ≤ p + 2 * k ∧ Rd w' g p' ∧ Kept g w.heap.size W0 w' ∧ HdAt w.heap.size 27 w') k w' → (fun k w' => ∃ p', p' ≤ p + 2 * k ∧ Rd w' g p' ∧ Kept g w.heap.size W0 w' ∧ HdAt w.heap.size 27 w') (k + 1) w' := fun k w' ⟨p', hp, h⟩ => ⟨p', by omega, h⟩
  refine wp_region_steps (W := fun k w' => ∃ p', p' ≤ p + 2 * k ∧ Rd w' g p' ∧ Kept g w.heap.size W0 w' ∧ HdAt w.heap.size 27 w') (Tr := fun a b => Kept g w.heap.size a b) (F := fun i v w' => match i with
      | 0 => v = .pointer (some ⟨g, 0, none⟩)
      | 1 => v = .int .i64 n
      | 2 => IsS 200 v
      | 3 => IsLit g w.heap.size 4 (IsS 200) 9 v w'
      | 4 => v = .pointer (some ⟨g, 0, none⟩)
      | 5 => IsI 0 3 v
      | 6 => IsAt g w.heap.size (IsS 200) v w'
      | 7 => IsS 200 v
      | 8 => v = .pointer (some ⟨g, 0, none⟩)
      | 9 => v = .int .i64 n
      | 10 => IsS 200 v
      | 11 => IsLit g w.heap.size 3 (IsS 200) 9 v w'
      | 12 => v = .pointer (some ⟨g, 0, none⟩)
      | 13 => IsI 0 2 v
      | 14 => IsAt g w.heap.size (IsS 200) v w'
      | 15 => IsS 200 v
      | 16 => IsHd v
      | _ => True) (by kernel_rfl) (by kernel_rfl) ?_ ?_ ?_ ?_
  · exact ⟨p, by omega, R0.drewN 1, Kept.drew _ _ _, hz0⟩
  · intro k a b i v hW hT hF
    match i with
    | 0 => exact hF
    | 1 => exact hF
    | 2 => exact hF
    | 3 => exact IsLit.kept hF hT
    | 4 => exact hF
    | 5 => exact hF
    | 6 => exact IsAt.kept hF hT
    | 7 => exact hF
    | 8 => exact hF
    | 9 => exact hF
    | 10 => exact hF
    | 11 => exact IsLit.kept hF hT
    | 12 => exact hF
    | 13 => exact hF
    | 14 => exact IsAt.kept hF hT
    | 15 => exact hF
    | 16 => exact hF
    | 17 => exact hF
    | _ + 18 => trivial
  · refine ⟨fun k ρ u hk hc hf hb hW hd => ?_, ?_⟩
    · have hk : k < 18 := hk
      exact yield_move _ rfl ⟨hb 0 (by kernel_rfl), next _ _ hW, Kept.refl _ _ _⟩
    refine ⟨fun k ρ u hk hc hf hb hW hd => ?_, ?_⟩
    · have hk : k < 18 := hk
      exact yield_move _ rfl ⟨hb 1 (by kernel_rfl), next _ _ hW, Kept.refl _ _ _⟩
    refine ⟨fun k ρ u hk hc hf hb hW hd => ?_, ?_⟩
    · have hk : k < 18 := hk
      have e0 : (ρ (.tmp 5)) = .pointer (some ⟨g, 0, none⟩) := hd.1 rfl rfl
      have e1 : (ρ (.tmp 6)) = .int .i64 n := hd.2.1 rfl rfl
      obtain ⟨p', hp, hR, hG⟩ := hW
      clear hd hb
      refine yield_call 81 #[.pointer (some ⟨g, 0, none⟩), .int .i64 n] (by simp [go_sem, hc, hf, e0, e1]) ?_
      refine (word_any _ _ _ _ hR (by omega) h1 h2 ).mono ?_
      rintro e w3 ⟨s, rfl, hs, p3, q0, q1, R3, G3⟩
      exact ⟨_, rfl, ⟨s, rfl, by omega⟩, ⟨p3, by omega, R3, ⟨hG.1.trans (.of G3), hG.2.grown G3 hne⟩⟩, .of G3⟩
    refine ⟨fun k ρ u hk hc hf hb hW hd => ?_, ?_⟩
    · have hk : k < 18 := hk
      obtain ⟨q3, e3, l3⟩ : IsS 200 (ρ (.tmp 7)) := hd.1 rfl rfl
      obtain ⟨p', hp, hR, hG⟩ := hW
      have hz' := hG.1.size
      have hz := hR.lt
      clear hd hb
      refine yield_value (w' := u.alloc (.cells #[Value.string { data := #[97, 110, 110] }, Value.string { data := #[98, 111, 98] }, Value.string { data := #[101, 118, 101] }, .string q3] 9)) (.slice (some ⟨u.heap.size, 0, none⟩) 4 4) (by simp [go_sem, hc, hf, e3]) ⟨⟨u.heap.size, [Value.string { data := #[97, 110, 110] }, Value.string { data := #[98, 111, 98] }, Value.string { data := #[101, 118, 101] }, .string q3], rfl, by omega, by omega, alloc_new rfl, rfl, ?_⟩, ⟨p', by omega, hR.alloc _, ⟨hG.1.trans (Kept.alloc _ _ _ _), hG.2.grown (World.grownBy_alloc _ _ (some g)) hne⟩⟩, Kept.alloc _ _ _ _⟩
      simp only [List.forall_mem_cons]
      exact ⟨⟨_, rfl, by first | decide | omega⟩, ⟨_, rfl, by first | decide | omega⟩, ⟨_, rfl, by first | decide | omega⟩, ⟨_, rfl, by first | decide | omega⟩, fun _ h => by cases h⟩
    refine ⟨fun k ρ u hk hc hf hb hW hd => ?_, ?_⟩
    · have hk : k < 18 := hk
      exact yield_move _ rfl ⟨hb 0 (by kernel_rfl), next _ _ hW, Kept.refl _ _ _⟩
    refine ⟨fun k ρ u hk hc hf hb hW hd => ?_, ?_⟩
    · have hk : k < 18 := hk
      have e0 : (ρ (.tmp 9)) = .pointer (some ⟨g, 0, none⟩) := hd.1 rfl rfl
      obtain ⟨p', hp, hR, hG⟩ := hW
      clear hd hb
      refine yield_call 44 #[.pointer (some ⟨g, 0, none⟩), .int .i64 4] (by simp [go_sem, hc, hf, e0]) ?_
      refine (pick_any _ _ _ _ hR (by omega) (by omega) (by omega) ).mono ?_
      rintro e w3 ⟨q, rfl, q0, q1, R3, G3⟩
      exact ⟨_, rfl, ⟨q, rfl, q0, by omega⟩, ⟨p' + 1, by omega, R3, ⟨hG.1.trans (.of G3), hG.2.grown G3 hne⟩⟩, .of G3⟩
    refine ⟨fun k ρ u hk hc hf hb hW hd => ?_, ?_⟩
    · have hk : k < 18 := hk
      have e0 : IsLit g w.heap.size 4 (IsS 200) 9 (ρ (.tmp 8)) u := hd.1 rfl rfl
      obtain ⟨q1, e1, l1, u1⟩ : IsI 0 3 (ρ (.tmp 10)) := hd.2.1 rfl rfl
      clear hd hb
      obtain ⟨B, eB, hA⟩ := IsLit.at e0 (q := q1) (by omega) (by omega)
      clear e0
      exact yield_value (w' := u) _ (by simp [go_sem, hc, hf, eB, e1, IntWalk.i64_in, show q1 < 4 by omega, l1]) ⟨hA, next _ _ hW, Kept.refl _ _ _⟩
    refine ⟨fun k ρ u hk hc hf hb hW hd => ?_, ?_⟩
    · have hk : k < 18 := hk
      have e0 : IsAt g w.heap.size (IsS 200) (ρ (.tmp 11)) u := hd.1 rfl rfl
      obtain ⟨B, j, x, eB, _, _, hx, hq⟩ := e0
      clear hd hb
      obtain ⟨q, rfl, hq⟩ := hq
      exact yield_value (w' := u) _ (by simp [go_sem, hc, hf, eB, hx]) ⟨⟨q, rfl, hq⟩, next _ _ hW, Kept.refl _ _ _⟩
    refine ⟨fun k ρ u hk hc hf hb hW hd => ?_, ?_⟩
    · have hk : k < 18 := hk
      exact yield_move _ rfl ⟨hb 0 (by kernel_rfl), next _ _ hW, Kept.refl _ _ _⟩
    refine ⟨fun k ρ u hk hc hf hb hW hd => ?_, ?_⟩
    · have hk : k < 18 := hk
      exact yield_move _ rfl ⟨hb 1 (by kernel_rfl), next _ _ hW, Kept.refl _ _ _⟩
    refine ⟨fun k ρ u hk hc hf hb hW hd => ?_, ?_⟩
    · have hk : k < 18 := hk
      have e0 : (ρ (.tmp 13)) = .pointer (some ⟨g, 0, none⟩) := hd.1 rfl rfl
      have e1 : (ρ (.tmp 14)) = .int .i64 n := hd.2.1 rfl rfl
      obtain ⟨p', hp, hR, hG⟩ := hW
      clear hd hb
      refine yield_call 81 #[.pointer (some ⟨g, 0, none⟩), .int .i64 n] (by simp [go_sem, hc, hf, e0, e1]) ?_
      refine (word_any _ _ _ _ hR (by omega) h1 h2 ).mono ?_
      rintro e w3 ⟨s, rfl, hs, p3, q0, q1, R3, G3⟩
      exact ⟨_, rfl, ⟨s, rfl, by omega⟩, ⟨p3, by omega, R3, ⟨hG.1.trans (.of G3), hG.2.grown G3 hne⟩⟩, .of G3⟩
    refine ⟨fun k ρ u hk hc hf hb hW hd => ?_, ?_⟩
    · have hk : k < 18 := hk
      obtain ⟨q2, e2, l2⟩ : IsS 200 (ρ (.tmp 15)) := hd.1 rfl rfl
      obtain ⟨p', hp, hR, hG⟩ := hW
      have hz' := hG.1.size
      have hz := hR.lt
      clear hd hb
      refine yield_value (w' := u.alloc (.cells #[Value.string { data := #[114, 101, 100] }, Value.string { data := #[115, 101, 97] }, .string q2] 9)) (.slice (some ⟨u.heap.size, 0, none⟩) 3 3) (by simp [go_sem, hc, hf, e2]) ⟨⟨u.heap.size, [Value.string { data := #[114, 101, 100] }, Value.string { data := #[115, 101, 97] }, .string q2], rfl, by omega, by omega, alloc_new rfl, rfl, ?_⟩, ⟨p', by omega, hR.alloc _, ⟨hG.1.trans (Kept.alloc _ _ _ _), hG.2.grown (World.grownBy_alloc _ _ (some g)) hne⟩⟩, Kept.alloc _ _ _ _⟩
      simp only [List.forall_mem_cons]
      exact ⟨⟨_, rfl, by first | decide | omega⟩, ⟨_, rfl, by first | decide | omega⟩, ⟨_, rfl, by first | decide | omega⟩, fun _ h => by cases h⟩
    refine ⟨fun k ρ u hk hc hf hb hW hd => ?_, ?_⟩
    · have hk : k < 18 := hk
      exact yield_move _ rfl ⟨hb 0 (by kernel_rfl), next _ _ hW, Kept.refl _ _ _⟩
    refine ⟨fun k ρ u hk hc hf hb hW hd => ?_, ?_⟩
    · have hk : k < 18 := hk
      have e0 : (ρ (.tmp 17)) = .pointer (some ⟨g, 0, none⟩) := hd.1 rfl rfl
      obtain ⟨p', hp, hR, hG⟩ := hW
      clear hd hb
      refine yield_call 44 #[.pointer (some ⟨g, 0, none⟩), .int .i64 3] (by simp [go_sem, hc, hf, e0]) ?_
      refine (pick_any _ _ _ _ hR (by omega) (by omega) (by omega) ).mono ?_
      rintro e w3 ⟨q, rfl, q0, q1, R3, G3⟩
      exact ⟨_, rfl, ⟨q, rfl, q0, by omega⟩, ⟨p' + 1, by omega, R3, ⟨hG.1.trans (.of G3), hG.2.grown G3 hne⟩⟩, .of G3⟩
    refine ⟨fun k ρ u hk hc hf hb hW hd => ?_, ?_⟩
    · have hk : k < 18 := hk
      have e0 : IsLit g w.heap.size 3 (IsS 200) 9 (ρ (.tmp 16)) u := hd.1 rfl rfl
      obtain ⟨q1, e1, l1, u1⟩ : IsI 0 2 (ρ (.tmp 18)) := hd.2.1 rfl rfl
      clear hd hb
      obtain ⟨B, eB, hA⟩ := IsLit.at e0 (q := q1) (by omega) (by omega)
      clear e0
      exact yield_value (w' := u) _ (by simp [go_sem, hc, hf, eB, e1, IntWalk.i64_in, show q1 < 3 by omega, l1]) ⟨hA, next _ _ hW, Kept.refl _ _ _⟩
    refine ⟨fun k ρ u hk hc hf hb hW hd => ?_, ?_⟩
    · have hk : k < 18 := hk
      have e0 : IsAt g w.heap.size (IsS 200) (ρ (.tmp 19)) u := hd.1 rfl rfl
      obtain ⟨B, j, x, eB, _, _, hx, hq⟩ := e0
      clear hd hb
      obtain ⟨q, rfl, hq⟩ := hq
      exact yield_value (w' := u) _ (by simp [go_sem, hc, hf, eB, hx]) ⟨⟨q, rfl, hq⟩, next _ _ hW, Kept.refl _ _ _⟩
    refine ⟨fun k ρ u hk hc hf hb hW hd => ?_, ?_⟩
    · have hk : k < 18 := hk
      obtain ⟨q0, e0, l0⟩ : IsS 200 (ρ (.tmp 12)) := hd.1 rfl rfl
      obtain ⟨q1, e1, l1⟩ : IsS 200 (ρ (.tmp 20)) := hd.2.1 rfl rfl
      clear hd hb
      exact yield_value (w' := u) (.agg #[.string q0, .string q1]) (by simp [go_sem, hc, hf, e0, e1]) ⟨⟨_, _, rfl, l0, l1⟩, next _ _ hW, Kept.refl _ _ _⟩
    refine ⟨fun k ρ u hk hc hf hb hW hd => ?_, ?_⟩
    · have hk : k < 18 := hk
      have e0 : (ρ (.tmp 4)) = .pointer (some ⟨w.heap.size, 0, none⟩) := hb 4 (by kernel_rfl)
      have e1 : IsHd (ρ (.tmp 21)) := hd.1 rfl rfl
      obtain ⟨a, b, e1, ha, hb'⟩ := e1
      obtain ⟨p', hp, hR, hG, x, y, hX, _⟩ := hW
      have f0 := frozen_of_row u w.heap.size 0 _ _ hX
      have f1 := frozen_of_row u w.heap.size 1 _ _ hX
      have z0 := cell_of_row u w.heap.size 0 _ _ _ hX
      have z1 := cell_of_row u w.heap.size 1 _ _ _ hX
      have ks := row2 (a := .string a) (b := .string b) hX
      clear hd hb
      unfold Yield
      simp [go_sem, hc, hf, e0, e1, f0, f1, z0, z1]
      exact ⟨⟨p', by omega, hR.grown ks.2 (by rintro _ ⟨rfl⟩; exact hgr), hG.trans (kept_store ks.2), ⟨a, b, ks.1, ha, hb'⟩⟩, kept_store ks.2⟩
    trivial
  intro env w' hW hF
  obtain ⟨p', hp, hR, hG, hX⟩ := hW
  replace hp : p' ≤ p + 2 * 18 := hp
  clear hF next
  have hr : List.range 22 = [0, 1, 2, 3, 4, 5, 6, 7, 8, 9, 10, 11, 12, 13, 14, 15, 16, 17, 18, 19, 20, 21] := rfl
  unfold after
  simp only [List.size_toArray, List.length_cons, List.length_nil, Nat.reduceAdd, hr, List.map_cons, List.map_nil]
  simp [idxOf, List.findIdx?, List.findIdx?.go, ]
  clear hr
  obtain ⟨a, b, hX, ha, hb⟩ := hX
  have v0 := cell_of_row w' w.heap.size 0 _ _ _ hX
  have v1 := cell_of_row w' w.heap.size 1 _ _ _ hX
  go_wp2
  exact bodyPost_ret (v := hdA a b) (by simp [results, Try.results58, go_sem, v0, v1]) rfl ⟨a, b, rfl, ha, hb, Turn.mk' (by omega) (by omega) hR (kept_turn G0 hG (Nat.le_refl _))⟩
end Go.Proofs.Ytlfjnaeepblhiaa
