/- The contracts of the draws of deliveries. -/
import Derived.Test.YtbnoonaefcogdaaAddDel
import Derived.Test.YtbnoonaefcogdaaFacts
namespace Go.Proofs.Ytbnoonaefcogdaa
open Go.RowKit
set_option linter.unusedVariables false
set_option linter.unusedSimpArgs false
theorem Turn.mk' {w w' : World} {g p p' k : Nat} (h1 : p ≤ p') (h2 : p' ≤ p + k) (R : Rd w' g p') (G : w.grownBy w' (some g)) : Turn w w' g p k := ⟨p', h1, h2, R, G⟩
theorem kept_store {g r : Nat} {a b : World} (h : a.grownBy b (some r)) : Kept g r a b := ⟨h.os, h.tape, h.output, h.size, fun k hk _ h2 => h.block k hk (fun e => h2 (by injection e with e))⟩
/-- Four stores into a block of four cells. -/
theorem row4 {w : World} {r : Nat} {x y z u a b c d : Value} {T : TypeId} (hz : w.heap[r]? = some (.cells #[x, y, z, u] T (0, 0))) :
    ((((w.setCell ⟨r, 0, none⟩ a).setCell ⟨r, 1, none⟩ b).setCell ⟨r, 2, none⟩ c).setCell ⟨r, 3, none⟩ d).heap[r]? = some (.cells #[a, b, c, d] T (0, 0)) ∧ w.grownBy ((((w.setCell ⟨r, 0, none⟩ a).setCell ⟨r, 1, none⟩ b).setCell ⟨r, 2, none⟩ c).setCell ⟨r, 3, none⟩ d) (some r) := by
  have h1 := heap_setCell_same w r 0 _ T a hz
  have h2 := heap_setCell_same _ r 1 _ T b h1
  have h3 := heap_setCell_same _ r 2 _ T c h2
  have h4 := heap_setCell_same _ r 3 _ T d h3
  refine ⟨by simpa using h4, rfl, rfl, rfl, by simp, fun k _ hk' => ?_⟩
  have hk : k ≠ r := fun e => hk' (by rw [e])
  rw [heap_setCell_other _ ⟨r, 3, none⟩ k _ hk, heap_setCell_other _ ⟨r, 2, none⟩ k _ hk, heap_setCell_other _ ⟨r, 1, none⟩ k _ hk, heap_setCell_other _ ⟨r, 0, none⟩ k _ hk]
theorem turn_rows {w w2 w' : World} {g p r : Nat} (hw : w.heap.size ≤ r) (hg : g < r) (G : w.grownBy w2 (some g)) (R : Rd w2 g p) (S : w2.grownBy w' (some r)) : Rd w' g p ∧ w.grownBy w' (some g) :=
  ⟨R.grown S (by rintro _ ⟨rfl⟩; exact hg), S.os.trans G.os, S.tape.trans G.tape, S.output.trans G.output, Nat.le_trans G.size S.size,
    fun k hk hne => (S.block k (Nat.lt_of_lt_of_le hk G.size) (fun e => by injection e with e; omega)).trans (G.block k hk hne)⟩
def IsDl (v : Value) : Prop := ∃ (m : Int) (a : ByteArray) (t y : Int), v = dlA m a t y ∧ a.size ≤ 200
def DlAt (r : Nat) (w : World) : Prop := ∃ (m : Int) (a : ByteArray) (t y : Int), w.heap[r]? = some (.cells #[.int .i64 m, .string a, .int .i64 t, .int .i64 y] 28 (0, 0)) ∧ a.size ≤ 200
theorem DlAt.grown {r : Nat} {w w' : World} (h : DlAt r w) {row : Option Nat} (hg : w.grownBy w' row) (hne : row ≠ some r) : DlAt r w' := by
  obtain ⟨m, a, t, y, hb, hs⟩ := h
  exact ⟨m, a, t, y, (hg.block r (Array.getElem?_eq_some_iff.1 hb).1 (fun e => hne e.symm)).trans hb, hs⟩
set_option maxHeartbeats 4000000 in
theorem delivery_any (g p : Nat) (n : Int) (w : World) (h : Rd w g p) (hp : p ≤ 80000) (h1 : 0 ≤ n) (h2 : n ≤ 1048576) :
    Calls Try.prog 27 #[.pointer (some ⟨g, 0, none⟩), .int .i64 n] w fun e' w' => ∃ (m : Int) (a : ByteArray) (t y : Int), e' = .returned (dlA m a t y) ∧ a.size ≤ 200 ∧ Turn w w' g 0 (p + 40) := by
  have hgl := h.lt
  have hz0 : (w.alloc (.cells #[.int .i64 0, .string ⟨#[]⟩, .int .i64 0, .int .i64 0] 28)).heap[w.heap.size]? = some (.cells #[.int .i64 0, .string ⟨#[]⟩, .int .i64 0, .int .i64 0] 28 (0, 0)) := alloc_new' rfl
  have G0 : w.grownBy (w.alloc (.cells #[.int .i64 0, .string ⟨#[]⟩, .int .i64 0, .int .i64 0] 28)) (some g) := World.grownBy_alloc _ _ _
  go_enter Try.func27, Try.ntmps27
  go_wp2_with fail
  refine (odd_any g p n _ (h.alloc _) (by omega) h1 h2).mono ?_
  rintro e' w1 ⟨o, rfl, p1, q0, q1, R1, G1⟩
  have r1 := (G1.block _ (Array.getElem?_eq_some_iff.1 hz0).1 (fun e => by injection e with e; omega)).trans hz0
  have G1 := G0.trans G1
  have z1 := (Array.getElem?_eq_some_iff.1 r1).1
  clear hz0 G0 h
  cases o with
  | true =>
    go_wp2_with fail
    refine (pick_any g p1 5 _ (R1.alloc _) (by omega) (by omega) (by omega)).mono ?_
    rintro e' w2 ⟨q, rfl, t0, t1, R2, G2⟩
    have hL : w2.heap[w1.heap.size]? = some (.cells #[.int .i64 0, .string ⟨#[]⟩, .int .i64 0, .int .i64 0, .int .i64 (-1), .string ⟨#[97]⟩, .int .i64 0, .int .i64 0, .int .i64 0, .string ⟨#[97]⟩, .int .i64 6, .int .i64 1000000000, .int .i64 0, .string ⟨#[97]⟩, .int .i64 0, .int .i64 1000000001, .int .i64 0, .string ⟨#[65]⟩, .int .i64 0, .int .i64 1000000000] 28 (0, 0)) := (G2.block _ (by simp) (fun e => by injection e with e; have := R1.lt; omega)).trans (alloc_new' rfl)
    have G3 := (World.grownBy_alloc w1 (.cells #[.int .i64 0, .string ⟨#[]⟩, .int .i64 0, .int .i64 0, .int .i64 (-1), .string ⟨#[97]⟩, .int .i64 0, .int .i64 0, .int .i64 0, .string ⟨#[97]⟩, .int .i64 6, .int .i64 1000000000, .int .i64 0, .string ⟨#[97]⟩, .int .i64 0, .int .i64 1000000001, .int .i64 0, .string ⟨#[65]⟩, .int .i64 0, .int .i64 1000000000] 28) (some g)).trans G2
    have r2 := (G3.block _ z1 (fun e => by injection e with e; omega)).trans r1
    have G2 := G1.trans G3
    clear G3 R1 r1 G1
    have f0 := frozen_of_row w2 w.heap.size 0 _ _ r2
    have f1 := frozen_of_row w2 w.heap.size 1 _ _ r2
    have f2 := frozen_of_row w2 w.heap.size 2 _ _ r2
    have f3 := frozen_of_row w2 w.heap.size 3 _ _ r2
    have y0 := cell_of_row w2 w.heap.size 0 _ _ _ r2
    have y1 := cell_of_row w2 w.heap.size 1 _ _ _ r2
    have y2 := cell_of_row w2 w.heap.size 2 _ _ _ r2
    have y3 := cell_of_row w2 w.heap.size 3 _ _ _ r2
    obtain rfl | rfl | rfl | rfl | rfl : q = 0 ∨ q = 1 ∨ q = 2 ∨ q = 3 ∨ q = 4 := by omega
    · have c0 := cell_of_row w2 w1.heap.size 0 _ _ _ hL
      have c1 := cell_of_row w2 w1.heap.size 1 _ _ _ hL
      have c2 := cell_of_row w2 w1.heap.size 2 _ _ _ hL
      have c3 := cell_of_row w2 w1.heap.size 3 _ _ _ hL
      go_wp2_with fail
      have ks := row4 (a := .int .i64 0) (b := .string ⟨#[]⟩) (c := .int .i64 0) (d := .int .i64 0) r2
      have hRG := turn_rows (Nat.le_refl _) hgl G2 R2 ks.2
      revert ks hRG
      generalize ((((w2.setCell ⟨w.heap.size, 0, none⟩ (.int .i64 0)).setCell ⟨w.heap.size, 1, none⟩ (.string ⟨#[]⟩)).setCell ⟨w.heap.size, 2, none⟩ (.int .i64 0)).setCell ⟨w.heap.size, 3, none⟩ (.int .i64 0)) = U
      intro ks hRG
      have v0 := cell_of_row U w.heap.size 0 _ _ _ ks.1
      have v1 := cell_of_row U w.heap.size 1 _ _ _ ks.1
      have v2 := cell_of_row U w.heap.size 2 _ _ _ ks.1
      have v3 := cell_of_row U w.heap.size 3 _ _ _ ks.1
      exact bodyPost_ret (v := dlA 0 ⟨#[]⟩ 0 0) (by simp [results, Try.results27, go_sem, v0, v1, v2, v3]) rfl ⟨_, _, _, _, rfl, by decide, p1 + 1, Nat.zero_le _, by omega, hRG.1, hRG.2⟩
    · have c0 := cell_of_row w2 w1.heap.size 4 _ _ _ hL
      have c1 := cell_of_row w2 w1.heap.size 5 _ _ _ hL
      have c2 := cell_of_row w2 w1.heap.size 6 _ _ _ hL
      have c3 := cell_of_row w2 w1.heap.size 7 _ _ _ hL
      go_wp2_with fail
      have ks := row4 (a := .int .i64 (-1)) (b := .string ⟨#[97]⟩) (c := .int .i64 0) (d := .int .i64 0) r2
      have hRG := turn_rows (Nat.le_refl _) hgl G2 R2 ks.2
      revert ks hRG
      generalize ((((w2.setCell ⟨w.heap.size, 0, none⟩ (.int .i64 (-1))).setCell ⟨w.heap.size, 1, none⟩ (.string ⟨#[97]⟩)).setCell ⟨w.heap.size, 2, none⟩ (.int .i64 0)).setCell ⟨w.heap.size, 3, none⟩ (.int .i64 0)) = U
      intro ks hRG
      have v0 := cell_of_row U w.heap.size 0 _ _ _ ks.1
      have v1 := cell_of_row U w.heap.size 1 _ _ _ ks.1
      have v2 := cell_of_row U w.heap.size 2 _ _ _ ks.1
      have v3 := cell_of_row U w.heap.size 3 _ _ _ ks.1
      exact bodyPost_ret (v := dlA (-1) ⟨#[97]⟩ 0 0) (by simp [results, Try.results27, go_sem, v0, v1, v2, v3]) rfl ⟨_, _, _, _, rfl, by decide, p1 + 1, Nat.zero_le _, by omega, hRG.1, hRG.2⟩
    · have c0 := cell_of_row w2 w1.heap.size 8 _ _ _ hL
      have c1 := cell_of_row w2 w1.heap.size 9 _ _ _ hL
      have c2 := cell_of_row w2 w1.heap.size 10 _ _ _ hL
      have c3 := cell_of_row w2 w1.heap.size 11 _ _ _ hL
      go_wp2_with fail
      have ks := row4 (a := .int .i64 0) (b := .string ⟨#[97]⟩) (c := .int .i64 6) (d := .int .i64 1000000000) r2
      have hRG := turn_rows (Nat.le_refl _) hgl G2 R2 ks.2
      revert ks hRG
      generalize ((((w2.setCell ⟨w.heap.size, 0, none⟩ (.int .i64 0)).setCell ⟨w.heap.size, 1, none⟩ (.string ⟨#[97]⟩)).setCell ⟨w.heap.size, 2, none⟩ (.int .i64 6)).setCell ⟨w.heap.size, 3, none⟩ (.int .i64 1000000000)) = U
      intro ks hRG
      have v0 := cell_of_row U w.heap.size 0 _ _ _ ks.1
      have v1 := cell_of_row U w.heap.size 1 _ _ _ ks.1
      have v2 := cell_of_row U w.heap.size 2 _ _ _ ks.1
      have v3 := cell_of_row U w.heap.size 3 _ _ _ ks.1
      exact bodyPost_ret (v := dlA 0 ⟨#[97]⟩ 6 1000000000) (by simp [results, Try.results27, go_sem, v0, v1, v2, v3]) rfl ⟨_, _, _, _, rfl, by decide, p1 + 1, Nat.zero_le _, by omega, hRG.1, hRG.2⟩
    · have c0 := cell_of_row w2 w1.heap.size 12 _ _ _ hL
      have c1 := cell_of_row w2 w1.heap.size 13 _ _ _ hL
      have c2 := cell_of_row w2 w1.heap.size 14 _ _ _ hL
      have c3 := cell_of_row w2 w1.heap.size 15 _ _ _ hL
      go_wp2_with fail
      have ks := row4 (a := .int .i64 0) (b := .string ⟨#[97]⟩) (c := .int .i64 0) (d := .int .i64 1000000001) r2
      have hRG := turn_rows (Nat.le_refl _) hgl G2 R2 ks.2
      revert ks hRG
      generalize ((((w2.setCell ⟨w.heap.size, 0, none⟩ (.int .i64 0)).setCell ⟨w.heap.size, 1, none⟩ (.string ⟨#[97]⟩)).setCell ⟨w.heap.size, 2, none⟩ (.int .i64 0)).setCell ⟨w.heap.size, 3, none⟩ (.int .i64 1000000001)) = U
      intro ks hRG
      have v0 := cell_of_row U w.heap.size 0 _ _ _ ks.1
      have v1 := cell_of_row U w.heap.size 1 _ _ _ ks.1
      have v2 := cell_of_row U w.heap.size 2 _ _ _ ks.1
      have v3 := cell_of_row U w.heap.size 3 _ _ _ ks.1
      exact bodyPost_ret (v := dlA 0 ⟨#[97]⟩ 0 1000000001) (by simp [results, Try.results27, go_sem, v0, v1, v2, v3]) rfl ⟨_, _, _, _, rfl, by decide, p1 + 1, Nat.zero_le _, by omega, hRG.1, hRG.2⟩
    · have c0 := cell_of_row w2 w1.heap.size 16 _ _ _ hL
      have c1 := cell_of_row w2 w1.heap.size 17 _ _ _ hL
      have c2 := cell_of_row w2 w1.heap.size 18 _ _ _ hL
      have c3 := cell_of_row w2 w1.heap.size 19 _ _ _ hL
      go_wp2_with fail
      have ks := row4 (a := .int .i64 0) (b := .string ⟨#[65]⟩) (c := .int .i64 0) (d := .int .i64 1000000000) r2
      have hRG := turn_rows (Nat.le_refl _) hgl G2 R2 ks.2
      revert ks hRG
      generalize ((((w2.setCell ⟨w.heap.size, 0, none⟩ (.int .i64 0)).setCell ⟨w.heap.size, 1, none⟩ (.string ⟨#[65]⟩)).setCell ⟨w.heap.size, 2, none⟩ (.int .i64 0)).setCell ⟨w.heap.size, 3, none⟩ (.int .i64 1000000000)) = U
      intro ks hRG
      have v0 := cell_of_row U w.heap.size 0 _ _ _ ks.1
      have v1 := cell_of_row U w.heap.size 1 _ _ _ ks.1
      have v2 := cell_of_row U w.heap.size 2 _ _ _ ks.1
      have v3 := cell_of_row U w.heap.size 3 _ _ _ ks.1
      exact bodyPost_ret (v := dlA 0 ⟨#[65]⟩ 0 1000000000) (by simp [results, Try.results27, go_sem, v0, v1, v2, v3]) rfl ⟨_, _, _, _, rfl, by decide, p1 + 1, Nat.zero_le _, by omega, hRG.1, hRG.2⟩
  | false =>
    go_wp2_with fail
    have next : ∀ k w', (fun k w' => ∃ p', p' ≤ p1 + k ∧ Rd w' g p' ∧ Kept g w.heap.size w1 w' ∧ DlAt w.heap.size w') k w' → (fun k w' => ∃ p', p' ≤ p1 + k ∧ Rd w' g p' ∧ Kept g w.heap.size w1 w' ∧ DlAt w.heap.size w') (k + 1) w' := fun k w' ⟨p', hp, h⟩ => ⟨p', by omega, h⟩
    refine wp_region_steps (W := fun k w' => ∃ p', p' ≤ p1 + k ∧ Rd w' g p' ∧ Kept g w.heap.size w1 w' ∧ DlAt w.heap.size w') (Tr := fun a b => Kept g w.heap.size a b) (F := fun i v w' => match i with
        | 0 => v = .pointer (some ⟨g, 0, none⟩)
        | 1 => IsI 0 4 v
        | 2 => IsLit g w.heap.size 3 (IsS 200) 9 v w'
        | 3 => v = .pointer (some ⟨g, 0, none⟩)
        | 4 => IsI 0 2 v
        | 5 => IsAt g w.heap.size (IsS 200) v w'
        | 6 => IsS 200 v
        | 7 => v = .pointer (some ⟨g, 0, none⟩)
        | 8 => IsI 0 5 v
        | 9 => v = .pointer (some ⟨g, 0, none⟩)
        | 10 => IsI 0 199 v
        | 11 => IsDl v
        | _ => True) (by kernel_rfl) (by kernel_rfl) ?_ ?_ ?_ ?_
    · exact ⟨p1, by omega, R1.drewN 1, Kept.drew _ _ _, _, _, _, _, r1, by decide⟩
    · intro k a b i v hW hT hF
      match i with
      | 0 => exact hF
      | 1 => exact hF
      | 2 => exact IsLit.kept hF hT
      | 3 => exact hF
      | 4 => exact hF
      | 5 => exact IsAt.kept hF hT
      | 6 => exact hF
      | 7 => exact hF
      | 8 => exact hF
      | 9 => exact hF
      | 10 => exact hF
      | 11 => exact hF
      | 12 => exact hF
      | _ + 13 => trivial
    · refine ⟨fun k ρ u hk hc hf hb hW hd => ?_, ?_⟩
      · have hk : k < 13 := hk
        exact yield_move _ rfl ⟨hb 0 (by kernel_rfl), next _ _ hW, Kept.refl _ _ _⟩
      refine ⟨fun k ρ u hk hc hf hb hW hd => ?_, ?_⟩
      · have hk : k < 13 := hk
        have e0 : (ρ (.tmp 18)) = .pointer (some ⟨g, 0, none⟩) := hd.1 rfl rfl
        obtain ⟨p', hp, hR, hG, hX⟩ := hW
        clear hd hb
        refine yield_call 25 #[.pointer (some ⟨g, 0, none⟩), .int .i64 5] (by simp [go_sem, hc, hf, e0]) ?_
        refine (pick_any _ _ _ _ hR (by omega) (by omega) (by omega)).mono ?_
        rintro e w3 ⟨q, rfl, q0, q1, R3, G3⟩
        exact ⟨_, rfl, ⟨q, rfl, q0, by omega⟩, ⟨p' + 1, by omega, R3, hG.trans (.of G3), hX.grown G3 (fun e => by injection e with e; omega)⟩, .of G3⟩
      refine ⟨fun k ρ u hk hc hf hb hW hd => ?_, ?_⟩
      · have hk : k < 13 := hk
        obtain ⟨p', hp, hR, hG, hX⟩ := hW
        have hz := hG.size
        clear hd hb
        refine yield_value (w' := u.alloc (.cells #[.string ⟨#[114, 101, 100]⟩, .string ⟨#[115, 101, 97]⟩, .string ⟨#[105, 99, 101]⟩] 9)) (.slice (some ⟨u.heap.size, 0, none⟩) 3 3) (by simp [go_sem, hc, hf]) ⟨⟨u.heap.size, [.string ⟨#[114, 101, 100]⟩, .string ⟨#[115, 101, 97]⟩, .string ⟨#[105, 99, 101]⟩], rfl, by have := hR.lt; omega, by omega, alloc_new rfl, rfl, ?_⟩, ⟨p', by omega, hR.alloc _, hG.trans (Kept.alloc _ _ _ _), hX.grown (World.grownBy_alloc u _ none) (by simp)⟩, Kept.alloc _ _ _ _⟩
        simp only [List.forall_mem_cons]
        exact ⟨⟨_, rfl, by decide⟩, ⟨_, rfl, by decide⟩, ⟨_, rfl, by decide⟩, fun _ h => by cases h⟩
      refine ⟨fun k ρ u hk hc hf hb hW hd => ?_, ?_⟩
      · have hk : k < 13 := hk
        exact yield_move _ rfl ⟨hb 0 (by kernel_rfl), next _ _ hW, Kept.refl _ _ _⟩
      refine ⟨fun k ρ u hk hc hf hb hW hd => ?_, ?_⟩
      · have hk : k < 13 := hk
        have e0 : (ρ (.tmp 21)) = .pointer (some ⟨g, 0, none⟩) := hd.1 rfl rfl
        obtain ⟨p', hp, hR, hG, hX⟩ := hW
        clear hd hb
        refine yield_call 25 #[.pointer (some ⟨g, 0, none⟩), .int .i64 3] (by simp [go_sem, hc, hf, e0]) ?_
        refine (pick_any _ _ _ _ hR (by omega) (by omega) (by omega)).mono ?_
        rintro e w3 ⟨q, rfl, q0, q1, R3, G3⟩
        exact ⟨_, rfl, ⟨q, rfl, q0, by omega⟩, ⟨p' + 1, by omega, R3, hG.trans (.of G3), hX.grown G3 (fun e => by injection e with e; omega)⟩, .of G3⟩
      refine ⟨fun k ρ u hk hc hf hb hW hd => ?_, ?_⟩
      · have hk : k < 13 := hk
        have e0 : IsLit g w.heap.size 3 (IsS 200) 9 (ρ (.tmp 20)) u := hd.1 rfl rfl
        obtain ⟨q1, e1, l1, u1⟩ : IsI 0 2 (ρ (.tmp 22)) := hd.2.1 rfl rfl
        clear hd hb
        obtain ⟨B, eB, hA⟩ := IsLit.at e0 (q := q1) (by omega) (by omega)
        clear e0
        exact yield_value (w' := u) _ (by simp [go_sem, hc, hf, eB, e1, IntWalk.i64_in, show q1 < 3 by omega, l1]) ⟨hA, next _ _ hW, Kept.refl _ _ _⟩
      refine ⟨fun k ρ u hk hc hf hb hW hd => ?_, ?_⟩
      · have hk : k < 13 := hk
        have e0 : IsAt g w.heap.size (IsS 200) (ρ (.tmp 23)) u := hd.1 rfl rfl
        obtain ⟨B, j, x, eB, _, _, hx, hq⟩ := e0
        clear hd hb
        obtain ⟨q, rfl, hq⟩ := hq
        exact yield_value (w' := u) _ (by simp [go_sem, hc, hf, eB, hx]) ⟨⟨q, rfl, hq⟩, next _ _ hW, Kept.refl _ _ _⟩
      refine ⟨fun k ρ u hk hc hf hb hW hd => ?_, ?_⟩
      · have hk : k < 13 := hk
        exact yield_move _ rfl ⟨hb 0 (by kernel_rfl), next _ _ hW, Kept.refl _ _ _⟩
      refine ⟨fun k ρ u hk hc hf hb hW hd => ?_, ?_⟩
      · have hk : k < 13 := hk
        have e0 : (ρ (.tmp 25)) = .pointer (some ⟨g, 0, none⟩) := hd.1 rfl rfl
        obtain ⟨p', hp, hR, hG, hX⟩ := hW
        clear hd hb
        refine yield_call 25 #[.pointer (some ⟨g, 0, none⟩), .int .i64 6] (by simp [go_sem, hc, hf, e0]) ?_
        refine (pick_any _ _ _ _ hR (by omega) (by omega) (by omega)).mono ?_
        rintro e w3 ⟨q, rfl, q0, q1, R3, G3⟩
        exact ⟨_, rfl, ⟨q, rfl, q0, by omega⟩, ⟨p' + 1, by omega, R3, hG.trans (.of G3), hX.grown G3 (fun e => by injection e with e; omega)⟩, .of G3⟩
      refine ⟨fun k ρ u hk hc hf hb hW hd => ?_, ?_⟩
      · have hk : k < 13 := hk
        exact yield_move _ rfl ⟨hb 0 (by kernel_rfl), next _ _ hW, Kept.refl _ _ _⟩
      refine ⟨fun k ρ u hk hc hf hb hW hd => ?_, ?_⟩
      · have hk : k < 13 := hk
        have e0 : (ρ (.tmp 27)) = .pointer (some ⟨g, 0, none⟩) := hd.1 rfl rfl
        obtain ⟨p', hp, hR, hG, hX⟩ := hW
        clear hd hb
        refine yield_call 25 #[.pointer (some ⟨g, 0, none⟩), .int .i64 200] (by simp [go_sem, hc, hf, e0]) ?_
        refine (pick_any _ _ _ _ hR (by omega) (by omega) (by omega)).mono ?_
        rintro e w3 ⟨q, rfl, q0, q1, R3, G3⟩
        exact ⟨_, rfl, ⟨q, rfl, q0, by omega⟩, ⟨p' + 1, by omega, R3, hG.trans (.of G3), hX.grown G3 (fun e => by injection e with e; omega)⟩, .of G3⟩
      refine ⟨fun k ρ u hk hc hf hb hW hd => ?_, ?_⟩
      · have hk : k < 13 := hk
        obtain ⟨m, e0, _, _⟩ : IsI 0 4 (ρ (.tmp 19)) := hd.1 rfl rfl
        obtain ⟨a, e1, hs⟩ : IsS 200 (ρ (.tmp 24)) := hd.2.1 rfl rfl
        obtain ⟨t, e2, _, _⟩ : IsI 0 5 (ρ (.tmp 26)) := hd.2.2.1 rfl rfl
        obtain ⟨y, e3, _, _⟩ : IsI 0 199 (ρ (.tmp 28)) := hd.2.2.2.1 rfl rfl
        clear hd hb
        exact yield_value (w' := u) (dlA m a t y) (by simp [go_sem, hc, hf, e0, e1, e2, e3]) ⟨⟨_, _, _, _, rfl, hs⟩, next _ _ hW, Kept.refl _ _ _⟩
      refine ⟨fun k ρ u hk hc hf hb hW hd => ?_, ?_⟩
      · have hk : k < 13 := hk
        have e0 : ρ (.tmp 4) = .pointer (some ⟨w.heap.size, 0, none⟩) := hb 4 (by kernel_rfl)
        obtain ⟨m, a, t, y, e1, hs⟩ : IsDl (ρ (.tmp 29)) := hd.1 rfl rfl
        obtain ⟨p', hp, hR, hG, m', a', t', y', hX, _⟩ := hW
        have f0 := frozen_of_row u w.heap.size 0 _ _ hX
        have f1 := frozen_of_row u w.heap.size 1 _ _ hX
        have f2 := frozen_of_row u w.heap.size 2 _ _ hX
        have f3 := frozen_of_row u w.heap.size 3 _ _ hX
        have z0 := cell_of_row u w.heap.size 0 _ _ _ hX
        have z1 := cell_of_row u w.heap.size 1 _ _ _ hX
        have z2 := cell_of_row u w.heap.size 2 _ _ _ hX
        have z3 := cell_of_row u w.heap.size 3 _ _ _ hX
        have ks := row4 (a := .int .i64 m) (b := .string a) (c := .int .i64 t) (d := .int .i64 y) hX
        clear hd hb
        have hS := kept_store (g := g) ks.2
        unfold Yield
        simp [go_sem, hc, hf, e0, e1, f0, f1, f2, f3, z0, z1, z2, z3]
        exact ⟨⟨p', by omega, hR.grown ks.2 (by rintro _ ⟨rfl⟩; exact hgl), hG.trans hS, ⟨m, a, t, y, ks.1, hs⟩⟩, hS⟩
      trivial
    intro env w' hW hF
    obtain ⟨p', hp, hR, hG, m, a, t, y, hX, hs⟩ := hW
    replace hp : p' ≤ p1 + 13 := by simpa using hp
    have G5 : w.grownBy w' (some g) := ⟨hG.os.trans G1.os, hG.tape.trans G1.tape, hG.output.trans G1.output, Nat.le_trans G1.size hG.size, fun k hk hne => (hG.block k (Nat.lt_of_lt_of_le hk G1.size) (fun e => hne (by rw [e])) (by omega)).trans (G1.block k hk hne)⟩
    clear hF next
    have hr : List.range 30 = [0, 1, 2, 3, 4, 5, 6, 7, 8, 9, 10, 11, 12, 13, 14, 15, 16, 17, 18, 19, 20, 21, 22, 23, 24, 25, 26, 27, 28, 29] := rfl
    unfold after
    simp only [List.size_toArray, List.length_cons, List.length_nil, Nat.reduceAdd, hr, List.map_cons, List.map_nil]
    simp [idxOf, List.findIdx?, List.findIdx?.go]
    clear hr
    have v0 := cell_of_row w' w.heap.size 0 _ _ _ hX
    have v1 := cell_of_row w' w.heap.size 1 _ _ _ hX
    have v2 := cell_of_row w' w.heap.size 2 _ _ _ hX
    have v3 := cell_of_row w' w.heap.size 3 _ _ _ hX
    go_wp2
    exact bodyPost_ret (v := dlA m a t y) (by simp [results, Try.results27, go_sem, v0, v1, v2, v3]) rfl ⟨_, _, _, _, rfl, hs, p', Nat.zero_le _, by omega, hR, G5⟩
theorem dlOk_snoc {xs : List Dl} {x : Dl} (h : dlOk xs) (hx : x.2.1.size ≤ 9223372036854775807) : dlOk (xs ++ [x]) := by
  intro y hy
  rw [List.mem_append] at hy
  rcases hy with hy | hy
  · exact h y hy
  · simp at hy; subst hy; exact hx
set_option maxHeartbeats 1000000 in
theorem deliveries_any (g p : Nat) (n : Int) (w : World) (h : Rd w g p) (hp : p ≤ 70000) (h1 : 0 ≤ n) (h2 : n ≤ 1048576) :
    Calls Try.prog 16 #[.pointer (some ⟨g, 0, none⟩), .int .i64 n] w fun e w' => ∃ B k d xs, e = .returned (.slice B k d) ∧ w'.ownsRow w.heap.size 28 4 (.slice B k d) k (dls xs) ∧ dlOk xs ∧ k ≤ 12 ∧ Turn w w' g 0 (p + 500) := by
  have hgr := h.lt
  have O0 := own_empty w 28 4
  have R0 := h.alloc (.cells #[] 28)
  have G0 : w.grownBy (w.alloc (.cells #[] 28)) (some g) := World.grownBy_alloc _ _ _
  go_enter Try.func16, Try.ntmps16
  go_wp2_with fail
  refine (pick_any g p 8 _ R0 (by omega) (by omega) (by omega)).mono ?_
  rintro e' w1 ⟨q, rfl, q0, q1, R1, G1⟩
  have O1 : w1.ownsRow w.heap.size 28 4 (.slice (some ⟨w.heap.size, 0, none⟩) 0 0) 0 (dls []) := O0.kept G1 (.inr (by simp [Value.ownBlock]; omega))
  have hq : q ≤ 7 := by omega
  have G1 := G0.trans G1
  clear O0 R0 G0 h
  go_wp2
  go_loopw [5, 6] (fun v i wr => ∃ (k p' m d : Nat) (B : Option Addr) (xs : List Dl), k ≤ 7 ∧ i = .int .i64 k ∧ v = .slice B m d ∧ wr.ownsRow w.heap.size 28 4 (.slice B m d) m (dls xs) ∧ dlOk xs ∧ m ≤ 11 ∧ Rd wr g p' ∧ 0 ≤ p' ∧ p' ≤ p + 1 + 40 * (7 - k) ∧ w.grownBy wr (some g)) (fun _ i _ => (intOf i).toNat)
  case atStart =>
    obtain ⟨k, rfl⟩ := Int.eq_ofNat_of_zero_le q0
    exact ⟨k, p + 1, 0, 0, _, [], by omega, rfl, rfl, O1, (by intro x hx; simp at hx), by omega, R1, by omega, by omega, G1⟩
  case round =>
    obtain ⟨k, p', m, d, B, xs, hk, rfl, rfl, O, hok, hm, R, l1, l2, G⟩ := hrel
    have HOK := hid hok
    clear hok O1 R1 G1
    by_cases hk0 : 0 < k
    · go_wp2_with fail
      refine (delivery_any g p' 0 _ R (by omega) (by omega) (by omega)).mono ?_
      rintro e' w2 ⟨e, a, t, f, rfl, ha, p2, l3, l4, R2, G2⟩
      have O2 := O.kept G2 (by right; intro e; have := (O.lt g e).1; omega)
      go_wp2_with fail
      refine (addDelS_any _ _ _ xs e a t f _ (own_sl O2) HOK.out (by omega)).mono ?_
      rintro e' w3 ⟨B3, k3, d3, ys, b, rfl, O3, hok3, hk3, b3⟩
      have O3 := own_lower O3 (Nat.le_trans G.size G2.size)
      have R3 := R2.below b3
      have G3 := (G.trans G2).trans (grown_of_below b3 (some g))
      have H3 := hid hok3
      clear O O2 R R2 G G2 b3 HOK hok3
      go_wp2_with fail
      go_roundw
      case rel => exact ⟨k - 1, p2, k3, d3, B3, _, by omega, by go_num, rfl, O3, H3.out, hk3, R3, by omega, by omega, G3⟩
      case measure => simp [intOf]; omega
    · have hk1 : k = 0 := by omega
      have t0 : decide ((0 : Int) < (k : Int)) = false := by simp; omega
      have HK := hid hk1
      clear hk1
      go_wp2_with fail
      refine (odd_any g p' n _ R (by omega) h1 h2).mono ?_
      rintro e' w2 ⟨o, rfl, p2, l3, l4, R2, G2⟩
      have O2 := O.kept G2 (by right; intro e; have := (O.lt g e).1; omega)
      have G3 := G.trans G2
      have hz := G3.size
      clear O R G G2
      cases o with
      | false =>
        go_wp2_with fail
        go_ret
        exact ⟨B, m, d, xs, rfl, O2, HOK.out, by omega, Turn.mk' (by omega) (by omega) R2 G3⟩
      | true =>
        go_wp2_with fail
        refine (delivery_any g p2 1 _ R2 (by omega) (by omega) (by omega)).mono ?_
        rintro e' w3 ⟨e, a, t, f, rfl, ha, p3, l5, l6, R3, G4⟩
        have O3 := O2.kept G4 (by right; intro e; have := (O2.lt g e).1; omega)
        have G5 := G3.trans G4
        have hz5 := G5.size
        have HS := hid (dlOk_snoc (x := (e, a, t, f)) HOK.out (show a.size ≤ 9223372036854775807 by omega))
        clear O2 R2 G3 G4
        go_wp2_with (at_builtin; refine wpList_append_see _ rfl (.tmp 27) (.tmp 30) eltDelivery rfl w.heap.size _ m (dls xs) rfl (O3.alloc _) (some ⟨w3.heap.size, 0, none⟩) 1 1 (dlC (e, a, t, f)) rfl (see_new _ (dlC (e, a, t, f)) _ _ rfl) (by simp) rfl (dlC_one _) (by unfold maxLen; omega) (by omega) (Nat.le_trans hz5 (by simp)) ?_; intro v4 w4 O4 G6 _)
        rw [show dls xs ++ dlC (e, a, t, f) = dls (xs ++ [(e, a, t, f)]) by simp [flat]] at O4
        have R4 := (R3.alloc (.cells (dlC (e, a, t, f)).toArray 28)).grown G6 (fun q hq => by have := (O3.lt q hq).1; omega)
        have G7 : w.grownBy w4 (some g) := ⟨G6.os.trans G5.os, G6.tape.trans G5.tape, G6.output.trans G5.output, Nat.le_trans hz5 (Nat.le_trans (by simp) G6.size), fun q hq hne => (G6.block q (Nat.lt_of_lt_of_le hq (Nat.le_trans hz5 (by simp))) (fun e => by have := (O3.lt q e.symm).1; omega)).trans ((Below.heap_alloc w3 _ q (Nat.lt_of_lt_of_le hq hz5)).trans (G5.block q hq hne))⟩
        obtain ⟨B4, d4, rfl, _⟩ := own_form O4
        clear O3 R3 G5 G6
        go_wp2
        go_ret
        exact ⟨B4, m + 1, d4, _, rfl, O4, HS.out, by omega, Turn.mk' (by omega) (by omega) R4 G7⟩
theorem drawDelV_any (A : Option Addr) (n c : Nat) (xs : List Int) (w : World) (h : Row .u8 w A n c xs) :
    Calls Try.prog 6 #[.slice A n c] w fun e w' => ∃ B k d ys, e = .returned (.slice B k d) ∧ w'.ownsRow w.heap.size 28 4 (.slice B k d) k (dls ys) ∧ dlOk ys ∧ k ≤ 12 ∧ Below w.heap.size w w' := by
  go_enter Try.func6, Try.ntmps6
  go_wp2_with fail
  refine (open_any A n c xs w h.sl h.byte).mono ?_
  rintro e w1 ⟨rfl, R1, B1⟩
  go_wp2_with fail
  refine (deliveries_any _ _ 2 _ R1 (by omega) (by omega) (by omega)).mono ?_
  rintro e w2 ⟨B, k, d, ys, rfl, O, hok, hk, T⟩
  have B2 := B1.trans (T.below (Nat.le_refl _) B1.size)
  have O := own_lower O B1.size
  clear R1 B1 T
  go_wp2_with fail
  go_ret
  exact ⟨B, k, d, ys, rfl, O, hok, hk, B2⟩
theorem drawDueAt_any (A : Option Addr) (n c : Nat) (xs : List Int) (w : World) (h : Row .u8 w A n c xs) :
    Calls Try.prog 13 #[.slice A n c] w fun e w' => ∃ B k d ys q, e = .returned (.tuple #[.slice B k d, .int .i64 q]) ∧ w'.ownsRow w.heap.size 28 4 (.slice B k d) k (dls ys) ∧ dlOk ys ∧ k ≤ 12 ∧ -1 ≤ q ∧ q ≤ 219 ∧ Below w.heap.size w w' := by
  go_enter Try.func13, Try.ntmps13
  go_wp2_with fail
  refine (open_any A n c xs w h.sl h.byte).mono ?_
  rintro e w1 ⟨rfl, R1, B1⟩
  go_wp2_with fail
  refine (deliveries_any _ _ 9 _ R1 (by omega) (by omega) (by omega)).mono ?_
  rintro e w2 ⟨B, k, d, ys, rfl, O, hok, hk, p2, l1, l2, R2, G2⟩
  have T2 := B1.grown G2 B1.size (by rintro _ ⟨rfl⟩; exact Nat.le_refl _)
  have hw1 := R1.lt
  have O := own_lower O (show w.heap.size + 1 ≤ w1.heap.size by omega)
  have HOK := hid hok
  clear R1 B1 G2 hok
  go_wp2_with fail
  refine (pick_any _ p2 220 _ R2 (by omega) (by omega) (by omega)).mono ?_
  rintro e w3 ⟨q, rfl, q0, q1, R3, G3⟩
  have T3 := T2.grown G3 T2.size (by rintro _ ⟨rfl⟩; exact Nat.le_refl _)
  have O := O.kept G3 (by right; intro e; have := (O.lt _ e).1; omega)
  clear R2 T2 G3
  go_wp2_with fail
  refine (pick_any _ (p2 + 1) 14 _ R3 (by omega) (by omega) (by omega)).mono ?_
  rintro e w4 ⟨r, rfl, r0, r1, R4, G4⟩
  have T4 := T3.grown G4 T3.size (by rintro _ ⟨rfl⟩; exact Nat.le_refl _)
  have O := O.kept G4 (by right; intro e; have := (O.lt _ e).1; omega)
  clear R3 T3 G4 R4
  have hqd := Int.tdiv_eq_ediv_of_nonneg (b := 13) r0
  have hdw := IntWalk.i64_in (r / 13) (by omega)
  have hd : r / 13 = 0 ∨ r / 13 = 1 := by omega
  have hs := IntWalk.i64_in (q - r / 13) (by omega)
  have HQ := hid (show -1 ≤ q - r / 13 ∧ q - r / 13 ≤ 219 by omega)
  clear hd
  go_wp2_with fail
  go_ret2
  exact ⟨B, k, d, ys, _, rfl, own_lower O (by omega), HOK.out, hk, HQ.out.1, HQ.out.2, T4⟩
end Go.Proofs.Ytbnoonaefcogdaa
