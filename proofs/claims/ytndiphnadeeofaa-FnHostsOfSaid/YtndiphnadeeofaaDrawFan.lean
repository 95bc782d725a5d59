/- The contracts of the draws of followers. -/
import Derived.Test.YtndiphnadeeofaaFacts
import Derived.Test.YtndiphnadeeofaaFollowingS
import Derived.Test.YtndiphnadeeofaaNames
namespace Go.Proofs.Ytndiphnadeeofaa
open Go.RowKit
set_option linter.unusedVariables false
set_option linter.unusedSimpArgs false

theorem litS_at {W W' : World} {B g : Nat} {L : List ByteArray} {T : TypeId} (hb : W.heap[B]? = some (.cells (L.map Value.string).toArray T (0, 0))) (hg : W.grownBy W' (some g)) (hne : B ≠ g) {q : Int} (h0 : 0 ≤ q) (h1 : q < L.length) :
    ∃ x, x ∈ L ∧ W'.cell? ⟨B, q.toNat, none⟩ = some (.string x) := by
  have hlt := (Array.getElem?_eq_some_iff.1 hb).1
  have hq : q.toNat < L.length := by omega
  refine ⟨L[q.toNat], by simp, ?_⟩
  rw [cell_of_row W' B q.toNat _ T (0, 0) ((hg.block B hlt (by simpa using hne)).trans hb)]
  simp [hq]
theorem Turn.mk' {w w' : World} {g p p' k : Nat} (h1 : p ≤ p') (h2 : p' ≤ p + k) (R : Rd w' g p') (G : w.grownBy w' (some g)) : Turn w w' g p k := ⟨p', h1, h2, R, G⟩
theorem kept_store {g r : Nat} {a b : World} (h : a.grownBy b (some r)) : Kept g r a b := ⟨h.os, h.tape, h.output, h.size, fun k hk _ h2 => h.block k hk (fun e => h2 (by injection e with e))⟩
theorem kept_turn {g r : Nat} {w W0 w' : World} (G : w.grownBy W0 (some g)) (K : Kept g r W0 w') (hr : w.heap.size ≤ r) : w.grownBy w' (some g) :=
  ⟨K.os.trans G.os, K.tape.trans G.tape, K.output.trans G.output, Nat.le_trans G.size K.size, fun k hk hne => (K.block k (Nat.lt_of_lt_of_le hk G.size) (fun e => hne (by rw [e])) (by omega)).trans (G.block k hk hne)⟩
/-- Two stores into a block of two cells. -/
theorem row2 {w : World} {r : Nat} {x y a b : Value} {T : TypeId} (hz : w.heap[r]? = some (.cells #[x, y] T (0, 0))) :
    ((w.setCell ⟨r, 0, none⟩ a).setCell ⟨r, 1, none⟩ b).heap[r]? = some (.cells #[a, b] T (0, 0)) ∧ w.grownBy ((w.setCell ⟨r, 0, none⟩ a).setCell ⟨r, 1, none⟩ b) (some r) := by
  have h1 := heap_setCell_same w r 0 _ T a hz
  have h2 := heap_setCell_same _ r 1 _ T b h1
  refine ⟨by simpa using h2, rfl, rfl, rfl, by simp, fun k _ hk' => ?_⟩
  have hk : k ≠ r := fun e => hk' (by rw [e])
  rw [heap_setCell_other _ ⟨r, 1, none⟩ k _ hk, heap_setCell_other _ ⟨r, 0, none⟩ k _ hk]
def IsHd (v : Value) : Prop := ∃ a b : ByteArray, v = hdA a b ∧ a.size ≤ 200 ∧ b.size ≤ 200
def HdAt (r : Nat) (T : TypeId) (w : World) : Prop := ∃ a b : ByteArray, w.heap[r]? = some (.cells #[.string a, .string b] T (0, 0)) ∧ a.size ≤ 200 ∧ b.size ≤ 200
theorem HdAt.grown {r : Nat} {T : TypeId} {w w' : World} (h : HdAt r T w) {row : Option Nat} (hg : w.grownBy w' row) (hne : row ≠ some r) : HdAt r T w' := by
  obtain ⟨a, b, hb, h1, h2⟩ := h
  exact ⟨a, b, (hg.block r (Array.getElem?_eq_some_iff.1 hb).1 (fun e => hne e.symm)).trans hb, h1, h2⟩
theorem word_any (g p : Nat) (n : Int) (w : World) (h : Rd w g p) (hp : p ≤ 90000) (h1 : 0 ≤ n) (h2 : n ≤ 1048576) :
    Calls Try.prog 59 #[.pointer (some ⟨g, 0, none⟩), .int .i64 n] w fun e w' => ∃ s : ByteArray, e = .returned (.string s) ∧ s.size ≤ 9 ∧ Turn w w' g p 2 := by
  go_enter Try.func59, Try.ntmps59
  go_wp2_with fail
  refine (odd_any g p n _ h (by omega) h1 h2).mono ?_
  rintro e' w1 ⟨o, rfl, p1, q0, q1, R1, G1⟩
  have hgl := R1.lt
  cases o with
  | true =>
    go_wp2_with fail
    refine (pick_any g p1 5 _ (R1.alloc _) (by omega) (by omega) (by omega)).mono ?_
    rintro e' w2 ⟨q, rfl, t0, t1, R2, G2⟩
    obtain ⟨x, hx, cx⟩ := litS_at (B := w1.heap.size) (L := [⟨#[]⟩, ⟨#[49, 97]⟩, ⟨#[65]⟩, ⟨#[97, 32, 98]⟩, ⟨#[97, 98, 99, 100, 101, 102, 103, 104, 105]⟩]) (alloc_new' rfl) G2 (by omega) t0 (by simpa using t1)
    have hs : x.size ≤ 9 := by simp at hx; rcases hx with rfl | rfl | rfl | rfl | rfl <;> decide
    have T : Turn w w2 g p 2 := Turn.mk' (p' := p1 + 1) (by omega) (by omega) R2 (G1.trans ((World.grownBy_alloc _ _ _).trans G2))
    clear hx R1 R2 G1 G2 h
    go_wp2_with fail
    go_ret
    exact ⟨x, rfl, hs, T⟩
  | false =>
    go_wp2_with fail
    refine (pick_any g p1 6 _ (R1.alloc _) (by omega) (by omega) (by omega)).mono ?_
    rintro e' w2 ⟨q, rfl, t0, t1, R2, G2⟩
    obtain ⟨x, hx, cx⟩ := litS_at (B := w1.heap.size) (L := [⟨#[97, 110, 110]⟩, ⟨#[98, 111, 98]⟩, ⟨#[114, 101, 100]⟩, ⟨#[115, 101, 97]⟩, ⟨#[107, 49]⟩, ⟨#[107, 50]⟩]) (alloc_new' rfl) G2 (by omega) t0 (by simpa using t1)
    have hs : x.size ≤ 9 := by simp at hx; rcases hx with rfl | rfl | rfl | rfl | rfl | rfl <;> decide
    have T : Turn w w2 g p 2 := Turn.mk' (p' := p1 + 1) (by omega) (by omega) R2 (G1.trans ((World.grownBy_alloc _ _ _).trans G2))
    clear hx R1 R2 G1 G2 h
    go_wp2_with fail
    go_ret
    exact ⟨x, rfl, hs, T⟩
theorem handle_any (g p : Nat) (n : Int) (w : World) (h : Rd w g p) (hp : p ≤ 80000) (h1 : 0 ≤ n) (h2 : n ≤ 1048576) :
    Calls Try.prog 56 #[.pointer (some ⟨g, 0, none⟩), .int .i64 n] w fun e w' => ∃ a b : ByteArray, e = .returned (hdA a b) ∧ a.size ≤ 200 ∧ b.size ≤ 200 ∧ Turn w w' g 0 (p + 40) := by
  have hgr := h.lt
  go_enter Try.func56, Try.ntmps56
  go_wp2
  have R0 := h.alloc (.cells #[.string ⟨#[]⟩, .string ⟨#[]⟩] 33)
  have hz0 : HdAt w.heap.size 33 (w.alloc (.cells #[.string ⟨#[]⟩, .string ⟨#[]⟩] 33)) := ⟨_, _, alloc_new' rfl, by decide, by decide⟩
  have G0 : w.grownBy (w.alloc (.cells #[.string ⟨#[]⟩, .string ⟨#[]⟩] 33)) (some g) := World.grownBy_alloc _ _ _
  generalize hW0 : w.alloc (.cells #[.string ⟨#[]⟩, .string ⟨#[]⟩] 33) = W0 at *
  have hzs : w.heap.size < W0.heap.size := by rw [← hW0]; simp
  clear hW0
  have hne : (some g : Option Nat) ≠ some w.heap.size := by intro e; injection e with e; omega
  have next : ∀ k w', (fun k w' => ∃ p', p' ≤ p + 2 * k ∧ Rd w' g p' ∧ Kept g w.heap.size W0 w' ∧ HdAt w.heap.size 33 w') k w' → (fun k w' => ∃ p', p' ≤ p + 2 * k ∧ Rd w' g p' ∧ Kept g w.heap.size W0 w' ∧ HdAt w.heap.size 33 w') (k + 1) w' := fun k w' ⟨p', hp, h⟩ => ⟨p', by omega, h⟩
  refine wp_region_steps (W := fun k w' => ∃ p', p' ≤ p + 2 * k ∧ Rd w' g p' ∧ Kept g w.heap.size W0 w' ∧ HdAt w.heap.size 33 w') (Tr := fun a b => Kept g w.heap.size a b) (F := fun i v w' => match i with
      | 0 => v = .pointer (some ⟨g, 0, none⟩)
      | 1 => v = .int .i64 n
      | 2 => IsS 200 v
      | 3 => IsLit g w.heap.size 4 (IsS 200) 9 v w'
      | 4 => v = .pointer (some ⟨g, 0, none⟩)
      | 5 => IsI 0 3 v
      | 6 => IsAt g w.heap.size (IsS 200) v w'
      | 7 => IsS 200 v
      | 8 => v = .pointer (some ⟨g, 0, none⟩)
      | 9 => v = .int .i64 n
      | 10 => IsS 200 v
      | 11 => IsLit g w.heap.size 3 (IsS 200) 9 v w'
      | 12 => v = .pointer (some ⟨g, 0, none⟩)
      | 13 => IsI 0 2 v
      | 14 => IsAt g w.heap.size (IsS 200) v w'
      | 15 => IsS 200 v
      | 16 => IsHd v
      | _ => True) (by kernel_rfl) (by kernel_rfl) ?_ ?_ ?_ ?_
  · exact ⟨p, by omega, R0.drewN 1, Kept.drew _ _ _, hz0⟩
  · intro k a b i v hW hT hF
    match i with
    | 0 => exact hF
    | 1 => exact hF
    | 2 => exact hF
    | 3 => exact IsLit.kept hF hT
    | 4 => exact hF
    | 5 => exact hF
    | 6 => exact IsAt.kept hF hT
    | 7 => exact hF
    | 8 => exact hF
    | 9 => exact hF
    | 10 => exact hF
    | 11 => exact IsLit.kept hF hT
    | 12 => exact hF
    | 13 => exact hF
    | 14 => exact IsAt.kept hF hT
    | 15 => exact hF
    | 16 => exact hF
    | 17 => exact hF
    | _ + 18 => trivial
  · refine ⟨fun k ρ u hk hc hf hb hW hd => ?_, ?_⟩
    · have hk : k < 18 := hk
      exact yield_move _ rfl ⟨hb 0 (by kernel_rfl), next _ _ hW, Kept.refl _ _ _⟩
    refine ⟨fun k ρ u hk hc hf hb hW hd => ?_, ?_⟩
    · have hk : k < 18 := hk
      exact yield_move _ rfl ⟨hb 1 (by kernel_rfl), next _ _ hW, Kept.refl _ _ _⟩
    refine ⟨fun k ρ u hk hc hf hb hW hd => ?_, ?_⟩
    · have hk : k < 18 := hk
      have e0 : (ρ (.tmp 5)) = .pointer (some ⟨g, 0, none⟩) := hd.1 rfl rfl
      have e1 : (ρ (.tmp 6)) = .int .i64 n := hd.2.1 rfl rfl
      obtain ⟨p', hp, hR, hG⟩ := hW
      clear hd hb
      refine yield_call 59 #[.pointer (some ⟨g, 0, none⟩), .int .i64 n] (by simp [go_sem, hc, hf, e0, e1]) ?_
      refine (word_any _ _ _ _ hR (by omega) h1 h2 ).mono ?_
      rintro e w3 ⟨s, rfl, hs, p3, q0, q1, R3, G3⟩
      exact ⟨_, rfl, ⟨s, rfl, by omega⟩, ⟨p3, by omega, R3, ⟨hG.1.trans (.of G3), hG.2.grown G3 hne⟩⟩, .of G3⟩
    refine ⟨fun k ρ u hk hc hf hb hW hd => ?_, ?_⟩
    · have hk : k < 18 := hk
      obtain ⟨q3, e3, l3⟩ : IsS 200 (ρ (.tmp 7)) := hd.1 rfl rfl
      obtain ⟨p', hp, hR, hG⟩ := hW
      have hz' := hG.1.size
      have hz := hR.lt
      clear hd hb
      refine yield_value (w' := u.alloc (.cells #[Value.string { data := #[97, 110, 110] }, Value.string { data := #[98, 111, 98] }, Value.string { data := #[101, 118, 101] }, .string q3] 9)) (.slice (some ⟨u.heap.size, 0, none⟩) 4 4) (by simp [go_sem, hc, hf, e3]) ⟨⟨u.heap.size, [Value.string { data := #[97, 110, 110] }, Value.string { data := #[98, 111, 98] }, Value.string { data := #[101, 118, 101] }, .string q3], rfl, by omega, by omega, alloc_new rfl, rfl, ?_⟩, ⟨p', by omega, hR.alloc _, ⟨hG.1.trans (Kept.alloc _ _ _ _), hG.2.grown (World.grownBy_alloc _ _ (some g)) hne⟩⟩, Kept.alloc _ _ _ _⟩
      simp only [List.forall_mem_cons]
      exact ⟨⟨_, rfl, by first | decide | omega⟩, ⟨_, rfl, by first | decide | omega⟩, ⟨_, rfl, by first | decide | omega⟩, ⟨_, rfl, by first | decide | omega⟩, fun _ h => by cases h⟩
    refine ⟨fun k ρ u hk hc hf hb hW hd => ?_, ?_⟩
    · have hk : k < 18 := hk
      exact yield_move _ rfl ⟨hb 0 (by kernel_rfl), next _ _ hW, Kept.refl _ _ _⟩
    refine ⟨fun k ρ u hk hc hf hb hW hd => ?_, ?_⟩
    · have hk : k < 18 := hk
      have e0 : (ρ (.tmp 9)) = .pointer (some ⟨g, 0, none⟩) := hd.1 rfl rfl
      obtain ⟨p', hp, hR, hG⟩ := hW
      clear hd hb
      refine yield_call 53 #[.pointer (some ⟨g, 0, none⟩), .int .i64 4] (by simp [go_sem, hc, hf, e0]) ?_
      refine (pick_any _ _ _ _ hR (by omega) (by omega) (by omega) ).mono ?_
      rintro e w3 ⟨q, rfl, q0, q1, R3, G3⟩
      exact ⟨_, rfl, ⟨q, rfl, q0, by omega⟩, ⟨p' + 1, by omega, R3, ⟨hG.1.trans (.of G3), hG.2.grown G3 hne⟩⟩, .of G3⟩
    refine ⟨fun k ρ u hk hc hf hb hW hd => ?_, ?_⟩
    · have hk : k < 18 := hk
      have e0 : IsLit g w.heap.size 4 (IsS 200) 9 (ρ (.tmp 8)) u := hd.1 rfl rfl
      obtain ⟨q1, e1, l1, u1⟩ : IsI 0 3 (ρ (.tmp 10)) := hd.2.1 rfl rfl
      clear hd hb
      obtain ⟨B, eB, hA⟩ := IsLit.at e0 (q := q1) (by omega) (by omega)
      clear e0
      exact yield_value (w' := u) _ (by simp [go_sem, hc, hf, eB, e1, IntWalk.i64_in, show q1 < 4 by omega, l1]) ⟨hA, next _ _ hW, Kept.refl _ _ _⟩
    refine ⟨fun k ρ u hk hc hf hb hW hd => ?_, ?_⟩
    · have hk : k < 18 := hk
      have e0 : IsAt g w.heap.size (IsS 200) (ρ (.tmp 11)) u := hd.1 rfl rfl
      obtain ⟨B, j, x, eB, _, _, hx, hq⟩ := e0
      clear hd hb
      obtain ⟨q, rfl, hq⟩ := hq
      exact yield_value (w' := u) _ (by simp [go_sem, hc, hf, eB, hx]) ⟨⟨q, rfl, hq⟩, next _ _ hW, Kept.refl _ _ _⟩
    refine ⟨fun k ρ u hk hc hf hb hW hd => ?_, ?_⟩
    · have hk : k < 18 := hk
      exact yield_move _ rfl ⟨hb 0 (by kernel_rfl), next _ _ hW, Kept.refl _ _ _⟩
    refine ⟨fun k ρ u hk hc hf hb hW hd => ?_, ?_⟩
    · have hk : k < 18 := hk
      exact yield_move _ rfl ⟨hb 1 (by kernel_rfl), next _ _ hW, Kept.refl _ _ _⟩
    refine ⟨fun k ρ u hk hc hf hb hW hd => ?_, ?_⟩
    · have hk : k < 18 := hk
      have e0 : (ρ (.tmp 13)) = .pointer (some ⟨g, 0, none⟩) := hd.1 rfl rfl
      have e1 : (ρ (.tmp 14)) = .int .i64 n := hd.2.1 rfl rfl
      obtain ⟨p', hp, hR, hG⟩ := hW
      clear hd hb
      refine yield_call 59 #[.pointer (some ⟨g, 0, none⟩), .int .i64 n] (by simp [go_sem, hc, hf, e0, e1]) ?_
      refine (word_any _ _ _ _ hR (by omega) h1 h2 ).mono ?_
      rintro e w3 ⟨s, rfl, hs, p3, q0, q1, R3, G3⟩
      exact ⟨_, rfl, ⟨s, rfl, by omega⟩, ⟨p3, by omega, R3, ⟨hG.1.trans (.of G3), hG.2.grown G3 hne⟩⟩, .of G3⟩
    refine ⟨fun k ρ u hk hc hf hb hW hd => ?_, ?_⟩
    · have hk : k < 18 := hk
      obtain ⟨q2, e2, l2⟩ : IsS 200 (ρ (.tmp 15)) := hd.1 rfl rfl
      obtain ⟨p', hp, hR, hG⟩ := hW
      have hz' := hG.1.size
      have hz := hR.lt
      clear hd hb
      refine yield_value (w' := u.alloc (.cells #[Value.string { data := #[114, 101, 100] }, Value.string { data := #[115, 101, 97] }, .string q2] 9)) (.slice (some ⟨u.heap.size, 0, none⟩) 3 3) (by simp [go_sem, hc, hf, e2]) ⟨⟨u.heap.size, [Value.string { data := #[114, 101, 100] }, Value.string { data := #[115, 101, 97] }, .string q2], rfl, by omega, by omega, alloc_new rfl, rfl, ?_⟩, ⟨p', by omega, hR.alloc _, ⟨hG.1.trans (Kept.alloc _ _ _ _), hG.2.grown (World.grownBy_alloc _ _ (some g)) hne⟩⟩, Kept.alloc _ _ _ _⟩
      simp only [List.forall_mem_cons]
      exact ⟨⟨_, rfl, by first | decide | omega⟩, ⟨_, rfl, by first | decide | omega⟩, ⟨_, rfl, by first | decide | omega⟩, fun _ h => by cases h⟩
    refine ⟨fun k ρ u hk hc hf hb hW hd => ?_, ?_⟩
    · have hk : k < 18 := hk
      exact yield_move _ rfl ⟨hb 0 (by kernel_rfl), next _ _ hW, Kept.refl _ _ _⟩
    refine ⟨fun k ρ u hk hc hf hb hW hd => ?_, ?_⟩
    · have hk : k < 18 := hk
      have e0 : (ρ (.tmp 17)) = .pointer (some ⟨g, 0, none⟩) := hd.1 rfl rfl
      obtain ⟨p', hp, hR, hG⟩ := hW
      clear hd hb
      refine yield_call 53 #[.pointer (some ⟨g, 0, none⟩), .int .i64 3] (by simp [go_sem, hc, hf, e0]) ?_
      refine (pick_any _ _ _ _ hR (by omega) (by omega) (by omega) ).mono ?_
      rintro e w3 ⟨q, rfl, q0, q1, R3, G3⟩
      exact ⟨_, rfl, ⟨q, rfl, q0, by omega⟩, ⟨p' + 1, by omega, R3, ⟨hG.1.trans (.of G3), hG.2.grown G3 hne⟩⟩, .of G3⟩
    refine ⟨fun k ρ u hk hc hf hb hW hd => ?_, ?_⟩
    · have hk : k < 18 := hk
      have e0 : IsLit g w.heap.size 3 (IsS 200) 9 (ρ (.tmp 16)) u := hd.1 rfl rfl
      obtain ⟨q1, e1, l1, u1⟩ : IsI 0 2 (ρ (.tmp 18)) := hd.2.1 rfl rfl
      clear hd hb
      obtain ⟨B, eB, hA⟩ := IsLit.at e0 (q := q1) (by omega) (by omega)
      clear e0
      exact yield_value (w' := u) _ (by simp [go_sem, hc, hf, eB, e1, IntWalk.i64_in, show q1 < 3 by omega, l1]) ⟨hA, next _ _ hW, Kept.refl _ _ _⟩
    refine ⟨fun k ρ u hk hc hf hb hW hd => ?_, ?_⟩
    · have hk : k < 18 := hk
      have e0 : IsAt g w.heap.size (IsS 200) (ρ (.tmp 19)) u := hd.1 rfl rfl
      obtain ⟨B, j, x, eB, _, _, hx, hq⟩ := e0
      clear hd hb
      obtain ⟨q, rfl, hq⟩ := hq
      exact yield_value (w' := u) _ (by simp [go_sem, hc, hf, eB, hx]) ⟨⟨q, rfl, hq⟩, next _ _ hW, Kept.refl _ _ _⟩
    refine ⟨fun k ρ u hk hc hf hb hW hd => ?_, ?_⟩
    · have hk : k < 18 := hk
      obtain ⟨q0, e0, l0⟩ : IsS 200 (ρ (.tmp 12)) := hd.1 rfl rfl
      obtain ⟨q1, e1, l1⟩ : IsS 200 (ρ (.tmp 20)) := hd.2.1 rfl rfl
      clear hd hb
      exact yield_value (w' := u) (.agg #[.string q0, .string q1]) (by simp [go_sem, hc, hf, e0, e1]) ⟨⟨_, _, rfl, l0, l1⟩, next _ _ hW, Kept.refl _ _ _⟩
    refine ⟨fun k ρ u hk hc hf hb hW hd => ?_, ?_⟩
    · have hk : k < 18 := hk
      have e0 : (ρ (.tmp 4)) = .pointer (some ⟨w.heap.size, 0, none⟩) := hb 4 (by kernel_rfl)
      have e1 : IsHd (ρ (.tmp 21)) := hd.1 rfl rfl
      obtain ⟨a, b, e1, ha, hb'⟩ := e1
      obtain ⟨p', hp, hR, hG, x, y, hX, _⟩ := hW
      have f0 := frozen_of_row u w.heap.size 0 _ _ hX
      have f1 := frozen_of_row u w.heap.size 1 _ _ hX
      have z0 := cell_of_row u w.heap.size 0 _ _ _ hX
      have z1 := cell_of_row u w.heap.size 1 _ _ _ hX
      have ks := row2 (a := .string a) (b := .string b) hX
      clear hd hb
      unfold Yield
      simp [go_sem, hc, hf, e0, e1, f0, f1, z0, z1]
      exact ⟨⟨p', by omega, hR.grown ks.2 (by rintro _ ⟨rfl⟩; exact hgr), hG.trans (kept_store ks.2), ⟨a, b, ks.1, ha, hb'⟩⟩, kept_store ks.2⟩
    trivial
  intro env w' hW hF
  obtain ⟨p', hp, hR, hG, hX⟩ := hW
  replace hp : p' ≤ p + 2 * 18 := hp
  clear hF next
  have hr : List.range 22 = [0, 1, 2, 3, 4, 5, 6, 7, 8, 9, 10, 11, 12, 13, 14, 15, 16, 17, 18, 19, 20, 21] := rfl
  unfold after
  simp only [List.size_toArray, List.length_cons, List.length_nil, Nat.reduceAdd, hr, List.map_cons, List.map_nil]
  simp [idxOf, List.findIdx?, List.findIdx?.go, ]
  clear hr
  obtain ⟨a, b, hX, ha, hb⟩ := hX
  have v0 := cell_of_row w' w.heap.size 0 _ _ _ hX
  have v1 := cell_of_row w' w.heap.size 1 _ _ _ hX
  go_wp2
  exact bodyPost_ret (v := hdA a b) (by simp [results, Try.results56, go_sem, v0, v1]) rfl ⟨a, b, rfl, ha, hb, Turn.mk' (by omega) (by omega) hR (kept_turn G0 hG (Nat.le_refl _))⟩
theorem followV_ok {xs : List Hd} {a b : ByteArray} (h : hdOk xs) (ha : a.size ≤ 9223372036854775807) (hb : b.size ≤ 9223372036854775807) : hdOk (followV xs (a, b)).1 := by
  cases hv : folV xs with
  | false => rw [follow_no hv]; intro x hx; simp at hx
  | true =>
    cases hv' : folV (insL xs (a, b)) with
    | false => rw [follow_not hv hv']; exact h
    | true => rw [follow_yes hv hv']; exact insL_ok h ha hb
theorem hdOk_snoc {xs : List Hd} {x : Hd} (h : hdOk xs) (hx : x.1.size ≤ 9223372036854775807 ∧ x.2.size ≤ 9223372036854775807) : hdOk (xs ++ [x]) := by
  intro y hy
  rw [List.mem_append] at hy
  rcases hy with hy | hy
  · exact h y hy
  · simp at hy; subst hy; exact hx
set_option maxHeartbeats 1000000 in
theorem fans_any (g p : Nat) (n : Int) (w : World) (h : Rd w g p) (hp : p ≤ 70000) (h1 : 0 ≤ n) (h2 : n ≤ 1048576) :
    Calls Try.prog 46 #[.pointer (some ⟨g, 0, none⟩), .int .i64 n] w fun e w' => ∃ B k d xs, e = .returned (.slice B k d) ∧ w'.ownsRow w.heap.size 33 2 (.slice B k d) k (hds xs) ∧ hdOk xs ∧ k ≤ 12 ∧ Turn w w' g 0 (p + 300) := by
  have hgr := h.lt
  have O0 := own_empty w 33 2
  have R0 := h.alloc (.cells #[] 33)
  have G0 : w.grownBy (w.alloc (.cells #[] 33)) (some g) := World.grownBy_alloc _ _ _
  go_enter Try.func46, Try.ntmps46
  go_wp2_with fail
  refine (pick_any g p 6 _ R0 (by omega) (by omega) (by omega)).mono ?_
  rintro e' w1 ⟨q, rfl, q0, q1, R1, G1⟩
  have O1 : w1.ownsRow w.heap.size 33 2 (.slice (some ⟨w.heap.size, 0, none⟩) 0 0) 0 (hds []) := O0.kept G1 (.inr (by simp [Value.ownBlock]; omega))
  have hq : q ≤ 5 := by omega
  have G1 := G0.trans G1
  clear O0 R0 G0 h
  go_wp2
  go_loopw [5, 6] (fun v i wr => ∃ (k p' m d : Nat) (B : Option Addr) (xs : List Hd), k ≤ 5 ∧ i = .int .i64 k ∧ v = .slice B m d ∧ wr.ownsRow w.heap.size 33 2 (.slice B m d) m (hds xs) ∧ hdOk xs ∧ m ≤ 11 ∧ Rd wr g p' ∧ 0 ≤ p' ∧ p' ≤ p + 1 + 40 * (5 - k) ∧ w.grownBy wr (some g)) (fun _ i _ => (intOf i).toNat)
  case atStart =>
    obtain ⟨k, rfl⟩ := Int.eq_ofNat_of_zero_le q0
    exact ⟨k, p + 1, 0, 0, _, [], by omega, rfl, rfl, O1, (by intro x hx; simp at hx), by omega, R1, by omega, by omega, G1⟩
  case round =>
    obtain ⟨k, p', m, d, B, xs, hk, rfl, rfl, O, hok, hm, R, l1, l2, G⟩ := hrel
    have HOK := hid hok
    clear hok O1 R1 G1
    by_cases hk0 : 0 < k
    · go_wp2_with fail
      refine (handle_any g p' 0 _ R (by omega) (by omega) (by omega)).mono ?_
      rintro e' w2 ⟨a, b, rfl, ha, hb, p2, l3, l4, R2, G2⟩
      have O2 := O.kept G2 (by right; intro e; have := (O.lt g e).1; omega)
      go_wp2_with fail
      refine (followS_any _ _ _ xs a b _ (own_sl O2) HOK.out (by omega) (by omega)).mono ?_
      rintro e' w3 ⟨B3, k3, d3, rfl, O3, b3⟩
      have O3 := own_lower O3 (Nat.le_trans G.size G2.size)
      have hk3 : k3 ≤ 11 := by have h1 := own_count O3 hdC_len (by omega); have h2 := followV_len xs (a, b); omega
      have R3 := R2.below b3
      have G3 := (G.trans G2).trans (grown_of_below b3 (some g))
      have H3 := hid (followV_ok (a := a) (b := b) HOK.out (by omega) (by omega))
      clear O O2 R R2 G G2 b3 HOK
      go_wp2_with fail
      go_roundw
      case rel => exact ⟨k - 1, p2, k3, d3, B3, _, by omega, by go_num, rfl, O3, H3.out, hk3, R3, by omega, by omega, G3⟩
      case measure => simp [intOf]; omega
    · have hk1 : k = 0 := by omega
      have t0 : decide ((0 : Int) < (k : Int)) = false := by simp; omega
      have HK := hid hk1
      clear hk1
      go_wp2_with fail
      refine (odd_any g p' n _ R (by omega) h1 h2).mono ?_
      rintro e' w2 ⟨o, rfl, p2, l3, l4, R2, G2⟩
      have O2 := O.kept G2 (by right; intro e; have := (O.lt g e).1; omega)
      have G3 := G.trans G2
      have hz := G3.size
      clear O R G G2
      cases o with
      | false =>
        go_wp2_with fail
        go_ret
        exact ⟨B, m, d, xs, rfl, O2, HOK.out, by omega, Turn.mk' (by omega) (by omega) R2 G3⟩
      | true =>
        by_cases hm0 : 0 < m
        · go_wp2_with fail
          refine (pick_any g p2 2 _ R2 (by omega) (by omega) (by omega)).mono ?_
          rintro e' w3 ⟨r, rfl, r0, r1, R3, G4⟩
          have O3 := O2.kept G4 (by right; intro e; have := (O2.lt g e).1; omega)
          have G5 := G3.trans G4
          have hz5 := G5.size
          clear O2 R2 G3 G4
          obtain ⟨ad, a, b, hA, hab, c0, c1⟩ := (own_sl O3).hd (j := 0) hm0
          subst hA
          have hsz := HOK.out _ (List.mem_of_getElem? hab)
          have HS := hid (hdOk_snoc HOK.out hsz)
          rw [Nat.zero_mul, addr_zero] at c0
          have c1 : w3.cell? ⟨ad.block, ad.off + 1, none⟩ = some (.string b) := by rw [Nat.zero_mul, addr_zero] at c1; exact c1
          have HO := hid (And.intro O3 (And.intro R3 G5))
          clear hab hsz
          by_cases hr : r = 0
          · have t1 : (r == 0) = true := by simpa using hr
            clear hr
            go_wp2_with (at_builtin; refine wpList_append_see _ rfl (.tmp 35) (.tmp 39) eltHandle rfl w.heap.size _ m (hds xs) rfl (O3.alloc _) (some ⟨w3.heap.size, 0, none⟩) 1 1 (hdC (a, b)) rfl (see_new _ (hdC (a, b)) _ _ rfl) (by simp) rfl (hdC_one _) (by unfold maxLen; omega) (by omega) (Nat.le_trans hz5 (by simp)) ?_; intro v4 w4 O4 G6 _)
            rw [show hds xs ++ hdC (a, b) = hds (xs ++ [(a, b)]) by simp [flat]] at O4
            have R4 := (R3.alloc (.cells (hdC (a, b)).toArray 33)).grown G6 (fun q hq => by have := (O3.lt q hq).1; omega)
            have G7 : w.grownBy w4 (some g) := ⟨G6.os.trans G5.os, G6.tape.trans G5.tape, G6.output.trans G5.output, Nat.le_trans hz5 (Nat.le_trans (by simp) G6.size), fun q hq hne => (G6.block q (Nat.lt_of_lt_of_le hq (Nat.le_trans hz5 (by simp))) (fun e => by have := (O3.lt q e.symm).1; omega)).trans ((Below.heap_alloc w3 _ q (Nat.lt_of_lt_of_le hq hz5)).trans (G5.block q hq hne))⟩
            obtain ⟨B4, d4, rfl, _⟩ := own_form O4
            clear O3 R3 G5 G6 c0 c1 HO
            go_wp2
            go_ret
            exact ⟨B4, m + 1, d4, _, rfl, O4, HS.out, by omega, Turn.mk' (by omega) (by omega) R4 G7⟩
          · have t1 : (r == 0) = false := by simpa using hr
            have HS2 := hid (hdOk_snoc (x := (⟨#[122]⟩, ⟨#[]⟩)) HOK.out ⟨by decide, by decide⟩)
            clear hr HS
            go_wp2_with (at_builtin; refine wpList_append_see _ rfl (.tmp 41) (.tmp 43) eltHandle rfl w.heap.size _ m (hds xs) rfl (O3.alloc _) (some ⟨w3.heap.size, 0, none⟩) 1 1 (hdC (⟨#[122]⟩, ⟨#[]⟩)) rfl (see_new _ (hdC (⟨#[122]⟩, ⟨#[]⟩)) _ _ rfl) (by simp) rfl (hdC_one _) (by unfold maxLen; omega) (by omega) (Nat.le_trans hz5 (by simp)) ?_; intro v4 w4 O4 G6 _)
            rw [show hds xs ++ hdC (⟨#[122]⟩, ⟨#[]⟩) = hds (xs ++ [(⟨#[122]⟩, ⟨#[]⟩)]) by simp [flat]] at O4
            have R4 := (R3.alloc (.cells (hdC (⟨#[122]⟩, ⟨#[]⟩)).toArray 33)).grown G6 (fun q hq => by have := (O3.lt q hq).1; omega)
            have G7 : w.grownBy w4 (some g) := ⟨G6.os.trans G5.os, G6.tape.trans G5.tape, G6.output.trans G5.output, Nat.le_trans hz5 (Nat.le_trans (by simp) G6.size), fun q hq hne => (G6.block q (Nat.lt_of_lt_of_le hq (Nat.le_trans hz5 (by simp))) (fun e => by have := (O3.lt q e.symm).1; omega)).trans ((Below.heap_alloc w3 _ q (Nat.lt_of_lt_of_le hq hz5)).trans (G5.block q hq hne))⟩
            obtain ⟨B4, d4, rfl, _⟩ := own_form O4
            clear O3 R3 G5 G6 c0 c1 HO
            go_wp2
            go_ret
            exact ⟨B4, m + 1, d4, _, rfl, O4, HS2.out, by omega, Turn.mk' (by omega) (by omega) R4 G7⟩
        · have hm1 : m = 0 := by omega
          have t2 : decide ((0 : Int) < (m : Int)) = false := by simp; omega
          have HM := hid hm1
          have HS2 := hid (hdOk_snoc (x := (⟨#[122]⟩, ⟨#[]⟩)) HOK.out ⟨by decide, by decide⟩)
          clear hm1
          go_wp2_with (at_builtin; refine wpList_append_see _ rfl (.tmp 41) (.tmp 43) eltHandle rfl w.heap.size _ m (hds xs) rfl (O2.alloc _) (some ⟨w2.heap.size, 0, none⟩) 1 1 (hdC (⟨#[122]⟩, ⟨#[]⟩)) rfl (see_new _ (hdC (⟨#[122]⟩, ⟨#[]⟩)) _ _ rfl) (by simp) rfl (hdC_one _) (by unfold maxLen; omega) (by omega) (Nat.le_trans hz (by simp)) ?_; intro v4 w4 O4 G6 _)
          rw [show hds xs ++ hdC (⟨#[122]⟩, ⟨#[]⟩) = hds (xs ++ [(⟨#[122]⟩, ⟨#[]⟩)]) by simp [flat]] at O4
          have R4 := (R2.alloc (.cells (hdC (⟨#[122]⟩, ⟨#[]⟩)).toArray 33)).grown G6 (fun q hq => by have := (O2.lt q hq).1; omega)
          have G7 : w.grownBy w4 (some g) := ⟨G6.os.trans G3.os, G6.tape.trans G3.tape, G6.output.trans G3.output, Nat.le_trans hz (Nat.le_trans (by simp) G6.size), fun q hq hne => (G6.block q (Nat.lt_of_lt_of_le hq (Nat.le_trans hz (by simp))) (fun e => by have := (O2.lt q e.symm).1; omega)).trans ((Below.heap_alloc w2 _ q (Nat.lt_of_lt_of_le hq hz)).trans (G3.block q hq hne))⟩
          obtain ⟨B4, d4, rfl, _⟩ := own_form O4
          clear O2 R2 G3 G6
          go_wp2
          go_ret
          exact ⟨B4, m + 1, d4, _, rfl, O4, HS2.out, by omega, Turn.mk' (by omega) (by omega) R4 G7⟩
theorem drawFol_any (A : Option Addr) (n c : Nat) (xs : List Int) (w : World) (h : Row .u8 w A n c xs) :
    Calls Try.prog 18 #[.slice A n c] w fun e w' => ∃ B k d ys, e = .returned (.slice B k d) ∧ w'.ownsRow w.heap.size 33 2 (.slice B k d) k (hds ys) ∧ hdOk ys ∧ k ≤ 12 ∧ Below w.heap.size w w' := by
  go_enter Try.func18, Try.ntmps18
  go_wp2_with fail
  refine (open_any A n c xs w h.sl h.byte).mono ?_
  rintro e w1 ⟨rfl, R1, B1⟩
  go_wp2_with fail
  refine (fans_any _ _ 2 _ R1 (by omega) (by omega) (by omega)).mono ?_
  rintro e w2 ⟨B, k, d, ys, rfl, O, hok, hk, T⟩
  have B2 := B1.trans (T.below (Nat.le_refl _) B1.size)
  have O := own_lower O B1.size
  clear R1 B1 T
  go_wp2_with fail
  go_ret
  exact ⟨B, k, d, ys, rfl, O, hok, hk, B2⟩
theorem drawHosts_any (A : Option Addr) (n c : Nat) (xs : List Int) (w : World) (h : Row .u8 w A n c xs) :
    Calls Try.prog 20 #[.slice A n c] w fun e w' => ∃ B k d ys, e = .returned (.slice B k d) ∧ w'.ownsRow w.heap.size 33 2 (.slice B k d) k (hds ys) ∧ hdOk ys ∧ k ≤ 12 ∧ Below w.heap.size w w' := by
  go_enter Try.func20, Try.ntmps20
  go_wp2_with fail
  refine (open_any A n c xs w h.sl h.byte).mono ?_
  rintro e w1 ⟨rfl, R1, B1⟩
  go_wp2_with fail
  refine (fans_any _ _ 9 _ R1 (by omega) (by omega) (by omega)).mono ?_
  rintro e w2 ⟨B, k, d, ys, rfl, O, hok, hk, T⟩
  have B2 := B1.trans (T.below (Nat.le_refl _) B1.size)
  have O := own_lower O B1.size
  clear R1 B1 T
  go_wp2_with fail
  go_ret
  exact ⟨B, k, d, ys, rfl, O, hok, hk, B2⟩
end Go.Proofs.Ytndiphnadeeofaa
