/- The contract of the draw of an item. -/
import Derived.Test.YtlfjnaeepblhiaaItemMem
import Derived.Test.YtlfjnaeepblhiaaDrawTx
import Derived.Test.YtlfjnaeepblhiaaDrawDay
import Derived.Test.YtlfjnaeepblhiaaLive
namespace Go.Proofs.Ytlfjnaeepblhiaa
open Go.RowKit
set_option linter.unusedVariables false
set_option linter.unusedSimpArgs false
set_option maxHeartbeats 1000000 in
/-- Four stores into a block of four cells. -/
theorem row4 {w : World} {r : Nat} {x y z u a b c d : Value} {T : TypeId} (hz : w.heap[r]? = some (.cells #[x, y, z, u] T (0, 0))) :
    ((((w.setCell ⟨r, 0, none⟩ a).setCell ⟨r, 1, none⟩ b).setCell ⟨r, 2, none⟩ c).setCell ⟨r, 3, none⟩ d).heap[r]? = some (.cells #[a, b, c, d] T (0, 0)) ∧ w.grownBy ((((w.setCell ⟨r, 0, none⟩ a).setCell ⟨r, 1, none⟩ b).setCell ⟨r, 2, none⟩ c).setCell ⟨r, 3, none⟩ d) (some r) := by
  have h1 : (w.setCell ⟨r, 0, none⟩ a).heap[r]? = some (.cells #[a, y, z, u] T (0, 0)) := by simpa using heap_setCell_same w r 0 _ T a hz
  have h2 := heap_setCell_same _ r 1 _ T b h1
  have h3 := heap_setCell_same _ r 2 _ T c h2
  have h4 := heap_setCell_same _ r 3 _ T d h3
  refine ⟨by simpa using h4, rfl, rfl, rfl, by simp, fun k _ hk' => ?_⟩
  have hk : k ≠ r := fun e => hk' (by rw [e])
  rw [heap_setCell_other _ ⟨r, 3, none⟩ k _ hk, heap_setCell_other _ ⟨r, 2, none⟩ k _ hk, heap_setCell_other _ ⟨r, 1, none⟩ k _ hk, heap_setCell_other _ ⟨r, 0, none⟩ k _ hk]
theorem turn_rows {w w2 w' : World} {g p r : Nat} (hw : w.heap.size ≤ r) (hg : g < r) (G : w.grownBy w2 (some g)) (R : Rd w2 g p) (S : w2.grownBy w' (some r)) : Rd w' g p ∧ w.grownBy w' (some g) :=
  ⟨R.grown S (by rintro _ ⟨rfl⟩; exact hg), S.os.trans G.os, S.tape.trans G.tape, S.output.trans G.output, Nat.le_trans G.size S.size,
    fun k hk hne => (S.block k (Nat.lt_of_lt_of_le hk G.size) (fun e => by injection e with e; omega)).trans (G.block k hk hne)⟩
def IsIm (v : Value) : Prop := ∃ (a b s : ByteArray) (d : Int), v = imA a b s d ∧ a.size ≤ 200 ∧ b.size ≤ 200 ∧ s.size ≤ 200
def ImAt (r : Nat) (w : World) : Prop := ∃ (a b s : ByteArray) (d : Int), w.heap[r]? = some (.cells #[.string a, .string b, .string s, .int .i64 d] 57 (0, 0)) ∧ a.size ≤ 200 ∧ b.size ≤ 200 ∧ s.size ≤ 200
theorem ImAt.grown {r : Nat} {w w' : World} (h : ImAt r w) {row : Option Nat} (hg : w.grownBy w' row) (hne : row ≠ some r) : ImAt r w' := by
  obtain ⟨a, b, s, d, hb, hs⟩ := h
  exact ⟨a, b, s, d, (hg.block r (Array.getElem?_eq_some_iff.1 hb).1 (fun e => hne e.symm)).trans hb, hs⟩
/-- One cell of such a block is stored. -/
theorem set1 {w : World} {r i : Nat} {cs : Array Value} {T : TypeId} {v : Value} (hz : w.heap[r]? = some (.cells cs T (0, 0))) : (w.setCell ⟨r, i, none⟩ v).heap[r]? = some (.cells (cs.setIfInBounds i v) T (0, 0)) ∧ w.grownBy (w.setCell ⟨r, i, none⟩ v) (some r) := by
  refine ⟨by simpa using heap_setCell_same w r i cs T v hz, rfl, rfl, rfl, by simp, fun k _ hk' => ?_⟩
  exact heap_setCell_other _ ⟨r, i, none⟩ k _ (fun e => hk' (by rw [e]))
def TrI (g N i : Nat) (a b : World) : Prop := if i = 16 then ∃ B, N ≤ B ∧ ImAt B b ∧ a.grownBy b (some B) else a.grownBy b (some g)
theorem TrI.get {g N i : Nat} {a b : World} (h : TrI g N i a b) (hi : i ≠ 16) : a.grownBy b (some g) := by unfold TrI at h; rwa [if_neg hi] at h
theorem TrI.mk {g N i : Nat} {a b : World} (h : a.grownBy b (some g)) (hi : i ≠ 16) : TrI g N i a b := by unfold TrI; rwa [if_neg hi]
set_option maxRecDepth 8000 in
set_option maxHeartbeats 8000000 in
theorem item_any (g p : Nat) (n : Int) (w : World) (h : Rd w g p) (hp : p ≤ 70000) (h1 : 0 ≤ n) (h2 : n ≤ 1048576) :
    Calls Try.prog 83 #[.pointer (some ⟨g, 0, none⟩), .int .i64 n] w fun e' w' => ∃ (a b s : ByteArray) (d : Int), e' = .returned (imA a b s d) ∧ a.size ≤ 200 ∧ b.size ≤ 200 ∧ s.size ≤ 200 ∧ Turn w w' g 0 (p + 600) := by
  have hgl := h.lt
  have G0 : w.grownBy (w.alloc (.cells #[.string ⟨#[]⟩, .string ⟨#[]⟩, .string ⟨#[]⟩, .int .i64 0] 57)) (some g) := World.grownBy_alloc _ _ _
  have R0 := h.alloc (.cells #[.string ⟨#[]⟩, .string ⟨#[]⟩, .string ⟨#[]⟩, .int .i64 0] 57)
  have hr0 : (w.alloc (.cells #[.string ⟨#[]⟩, .string ⟨#[]⟩, .string ⟨#[]⟩, .int .i64 0] 57)).heap[w.heap.size]? = some (.cells #[.string ⟨#[]⟩, .string ⟨#[]⟩, .string ⟨#[]⟩, .int .i64 0] 57 (0, 0)) := alloc_new' rfl
  have hN0 : w.heap.size < (w.alloc (.cells #[.string ⟨#[]⟩, .string ⟨#[]⟩, .string ⟨#[]⟩, .int .i64 0] 57)).heap.size := by simp
  go_enter Try.func83, Try.ntmps83
  go_wp2_with fail
  generalize hW0 : w.alloc (.cells #[.string ⟨#[]⟩, .string ⟨#[]⟩, .string ⟨#[]⟩, .int .i64 0] 57) = W0 at *
  clear hW0 h
  obtain ⟨N, hN⟩ : ∃ N, N = W0.heap.size := ⟨_, rfl⟩
  have next : ∀ k u, (fun k u => ∃ p', p' ≤ p + 30 * k ∧ Rd u g p' ∧ W0.grownBy u (some g)) k u → (fun k u => ∃ p', p' ≤ p + 30 * k ∧ Rd u g p' ∧ W0.grownBy u (some g)) (k + 1) u := fun k u ⟨p', hp, h⟩ => ⟨p', by omega, h⟩
  refine wp_region_live (W := fun k u => ∃ p', p' ≤ p + 30 * k ∧ Rd u g p' ∧ W0.grownBy u (some g)) (dead := fun i j => i == 16 && (j == 0 || j == 3 || j == 5 || j == 8)) (Tr := fun i a b => TrI g N i a b) (F := fun i v w' => match i with
      | 0 => IsLit g g 5 (IsS 200) 9 v w'
      | 1 => v = .pointer (some ⟨g, 0, none⟩)
      | 2 => IsI 0 4 v
      | 3 => IsAt g g (IsS 200) v w'
      | 4 => IsS 200 v
      | 5 => IsLit g g 3 (IsS 200) 9 v w'
      | 6 => v = .pointer (some ⟨g, 0, none⟩)
      | 7 => IsI 0 2 v
      | 8 => IsAt g g (IsS 200) v w'
      | 9 => IsS 200 v
      | 10 => v = .pointer (some ⟨g, 0, none⟩)
      | 11 => IsS 200 v
      | 12 => v = .pointer (some ⟨g, 0, none⟩)
      | 13 => ∃ d : Int, v = .int .i64 d
      | 14 => IsIm v
      | 15 => ∃ B, v = .pointer (some ⟨B, 0, none⟩) ∧ N ≤ B ∧ ImAt B w'
      | _ => True) (by kernel_rfl) (by kernel_rfl) (by kernel_rfl) ?_ ?_ ?_ ?_
  · exact ⟨p, by omega, R0.drewN 1, ⟨rfl, rfl, rfl, Nat.le_refl _, fun _ _ _ => rfl⟩⟩
  · intro i j kk a' b' v hi hj hne hdd haa hW hT hF
    match j with
    | 0 =>
      by_cases hi16 : i = 16
      · subst hi16; exact absurd hdd (by decide)
      · exact IsLit.kept hF (Kept.of (hT.get hi16))
    | 1 => exact hF
    | 2 => exact hF
    | 3 =>
      by_cases hi16 : i = 16
      · subst hi16; exact absurd hdd (by decide)
      · exact IsAt.kept hF (Kept.of (hT.get hi16))
    | 4 => exact hF
    | 5 =>
      by_cases hi16 : i = 16
      · subst hi16; exact absurd hdd (by decide)
      · exact IsLit.kept hF (Kept.of (hT.get hi16))
    | 6 => exact hF
    | 7 => exact hF
    | 8 =>
      by_cases hi16 : i = 16
      · subst hi16; exact absurd hdd (by decide)
      · exact IsAt.kept hF (Kept.of (hT.get hi16))
    | 9 => exact hF
    | 10 => exact hF
    | 11 => exact hF
    | 12 => exact hF
    | 13 => exact hF
    | 14 => exact hF
    | 15 =>
      obtain ⟨B, e, hB, hI⟩ := hF
      by_cases hi16 : i = 16
      · subst hi16
        obtain ⟨B2, h1, h2, h3⟩ : ∃ B2, N ≤ B2 ∧ ImAt B2 b' ∧ a'.grownBy b' (some B2) := by unfold TrI at hT; rwa [if_pos rfl] at hT
        refine ⟨B, e, hB, ?_⟩
        by_cases hBB : B2 = B
        · rw [← hBB]; exact h2
        · exact hI.grown h3 (fun e => hBB (by injection e))
      · exact ⟨B, e, hB, hI.grown (hT.get hi16) (fun e => by injection e with e; omega)⟩
    | 16 => trivial
    | _ + 17 => trivial
  · refine ⟨fun kk ρ u hkk hc hf hb hW hd => ?_, ?_⟩
    · have hkk : kk < 17 := hkk
      obtain ⟨p', hp, hR, hG⟩ := hW
      have hz := hR.lt
      clear hd hb
      refine yield_value (w' := u.alloc (.cells #[Value.string { data := #[107, 49] }, Value.string { data := #[107, 50] }, Value.string { data := #[107, 51] }, Value.string { data := #[107, 52] }, Value.string { data := #[107, 53] }] 9)) (.slice (some ⟨u.heap.size, 0, none⟩) 5 5) (by simp [go_sem, hc, hf]) ⟨⟨u.heap.size, [Value.string { data := #[107, 49] }, Value.string { data := #[107, 50] }, Value.string { data := #[107, 51] }, Value.string { data := #[107, 52] }, Value.string { data := #[107, 53] }], rfl, by omega, by omega, alloc_new rfl, rfl, ?_⟩, ⟨p', by omega, hR.alloc _, hG.trans (World.grownBy_alloc _ _ _)⟩, TrI.mk (World.grownBy_alloc _ _ _) (by decide)⟩
      simp only [List.forall_mem_cons]
      exact ⟨⟨_, rfl, by decide⟩, ⟨_, rfl, by decide⟩, ⟨_, rfl, by decide⟩, ⟨_, rfl, by decide⟩, ⟨_, rfl, by decide⟩, fun _ h => by cases h⟩
    refine ⟨fun kk ρ u hkk hc hf hb hW hd => ?_, ?_⟩
    · have hkk : kk < 17 := hkk
      exact yield_move _ rfl ⟨hb 0 (by kernel_rfl), next _ _ hW, TrI.mk (World.grownBy.refl _ _) (by decide)⟩
    refine ⟨fun kk ρ u hkk hc hf hb hW hd => ?_, ?_⟩
    · have hkk : kk < 17 := hkk
      have e0 : ρ (.tmp 7) = .pointer (some ⟨g, 0, none⟩) := hd.1 rfl rfl
      obtain ⟨p', hp, hR, hG⟩ := hW
      clear hd hb
      refine yield_call 44 #[.pointer (some ⟨g, 0, none⟩), .int .i64 5] (by simp [go_sem, hc, hf, e0]) ?_
      refine (pick_any _ _ _ _ hR (by omega) (by omega) (by omega)).mono ?_
      rintro e w3 ⟨q, rfl, q0, q1, R3, G3⟩
      exact ⟨_, rfl, ⟨q, rfl, q0, by omega⟩, ⟨p' + 1, by omega, R3, hG.trans G3⟩, TrI.mk G3 (by decide)⟩
    refine ⟨fun kk ρ u hkk hc hf hb hW hd => ?_, ?_⟩
    · have hkk : kk < 17 := hkk
      have e0 : IsLit g g 5 (IsS 200) 9 (ρ (.tmp 6)) u := hd.1 rfl rfl
      obtain ⟨q1, e1, l1, u1⟩ : IsI 0 4 (ρ (.tmp 8)) := hd.2.1 rfl rfl
      clear hd hb
      obtain ⟨B, eB, hA⟩ := IsLit.at e0 (q := q1) (by omega) (by omega)
      clear e0
      exact yield_value (w' := u) _ (by simp [go_sem, hc, hf, eB, e1, IntWalk.i64_in, show q1 < 5 by omega, l1]) ⟨hA, next _ _ hW, TrI.mk (World.grownBy.refl _ _) (by decide)⟩
    refine ⟨fun kk ρ u hkk hc hf hb hW hd => ?_, ?_⟩
    · have hkk : kk < 17 := hkk
      have e0 : IsAt g g (IsS 200) (ρ (.tmp 9)) u := hd.1 rfl rfl
      obtain ⟨B, j, x, eB, _, _, hx, hq⟩ := e0
      clear hd hb
      obtain ⟨q, rfl, hq⟩ := hq
      exact yield_value (w' := u) _ (by simp [go_sem, hc, hf, eB, hx]) ⟨⟨q, rfl, hq⟩, next _ _ hW, TrI.mk (World.grownBy.refl _ _) (by decide)⟩
    refine ⟨fun kk ρ u hkk hc hf hb hW hd => ?_, ?_⟩
    · have hkk : kk < 17 := hkk
      obtain ⟨p', hp, hR, hG⟩ := hW
      have hz := hR.lt
      clear hd hb
      refine yield_value (w' := u.alloc (.cells #[Value.string { data := #[78, 101, 119, 115] }, Value.string { data := #[65, 32, 38, 32, 66] }, Value.string { data := #[116] }] 9)) (.slice (some ⟨u.heap.size, 0, none⟩) 3 3) (by simp [go_sem, hc, hf]) ⟨⟨u.heap.size, [Value.string { data := #[78, 101, 119, 115] }, Value.string { data := #[65, 32, 38, 32, 66] }, Value.string { data := #[116] }], rfl, by omega, by omega, alloc_new rfl, rfl, ?_⟩, ⟨p', by omega, hR.alloc _, hG.trans (World.grownBy_alloc _ _ _)⟩, TrI.mk (World.grownBy_alloc _ _ _) (by decide)⟩
      simp only [List.forall_mem_cons]
      exact ⟨⟨_, rfl, by decide⟩, ⟨_, rfl, by decide⟩, ⟨_, rfl, by decide⟩, fun _ h => by cases h⟩
    refine ⟨fun kk ρ u hkk hc hf hb hW hd => ?_, ?_⟩
    · have hkk : kk < 17 := hkk
      exact yield_move _ rfl ⟨hb 0 (by kernel_rfl), next _ _ hW, TrI.mk (World.grownBy.refl _ _) (by decide)⟩
    refine ⟨fun kk ρ u hkk hc hf hb hW hd => ?_, ?_⟩
    · have hkk : kk < 17 := hkk
      have e0 : ρ (.tmp 12) = .pointer (some ⟨g, 0, none⟩) := hd.1 rfl rfl
      obtain ⟨p', hp, hR, hG⟩ := hW
      clear hd hb
      refine yield_call 44 #[.pointer (some ⟨g, 0, none⟩), .int .i64 3] (by simp [go_sem, hc, hf, e0]) ?_
      refine (pick_any _ _ _ _ hR (by omega) (by omega) (by omega)).mono ?_
      rintro e w3 ⟨q, rfl, q0, q1, R3, G3⟩
      exact ⟨_, rfl, ⟨q, rfl, q0, by omega⟩, ⟨p' + 1, by omega, R3, hG.trans G3⟩, TrI.mk G3 (by decide)⟩
    refine ⟨fun kk ρ u hkk hc hf hb hW hd => ?_, ?_⟩
    · have hkk : kk < 17 := hkk
      have e0 : IsLit g g 3 (IsS 200) 9 (ρ (.tmp 11)) u := hd.1 rfl rfl
      obtain ⟨q1, e1, l1, u1⟩ : IsI 0 2 (ρ (.tmp 13)) := hd.2.1 rfl rfl
      clear hd hb
      obtain ⟨B, eB, hA⟩ := IsLit.at e0 (q := q1) (by omega) (by omega)
      clear e0
      exact yield_value (w' := u) _ (by simp [go_sem, hc, hf, eB, e1, IntWalk.i64_in, show q1 < 3 by omega, l1]) ⟨hA, next _ _ hW, TrI.mk (World.grownBy.refl _ _) (by decide)⟩
    refine ⟨fun kk ρ u hkk hc hf hb hW hd => ?_, ?_⟩
    · have hkk : kk < 17 := hkk
      have e0 : IsAt g g (IsS 200) (ρ (.tmp 14)) u := hd.1 rfl rfl
      obtain ⟨B, j, x, eB, _, _, hx, hq⟩ := e0
      clear hd hb
      obtain ⟨q, rfl, hq⟩ := hq
      exact yield_value (w' := u) _ (by simp [go_sem, hc, hf, eB, hx]) ⟨⟨q, rfl, hq⟩, next _ _ hW, TrI.mk (World.grownBy.refl _ _) (by decide)⟩
    refine ⟨fun kk ρ u hkk hc hf hb hW hd => ?_, ?_⟩
    · have hkk : kk < 17 := hkk
      exact yield_move _ rfl ⟨hb 0 (by kernel_rfl), next _ _ hW, TrI.mk (World.grownBy.refl _ _) (by decide)⟩
    refine ⟨fun kk ρ u hkk hc hf hb hW hd => ?_, ?_⟩
    · have hkk : kk < 17 := hkk
      have e0 : ρ (.tmp 16) = .pointer (some ⟨g, 0, none⟩) := hd.1 rfl rfl
      obtain ⟨p', hp, hR, hG⟩ := hW
      clear hd hb
      refine yield_call 88 #[.pointer (some ⟨g, 0, none⟩), .int .i64 0] (by simp [go_sem, hc, hf, e0]) ?_
      refine (text_any _ _ _ _ hR (by omega) (by omega) (by omega)).mono ?_
      rintro e w3 ⟨s, rfl, hs, p3, l3, l4, R3, G3⟩
      exact ⟨_, rfl, ⟨s, rfl, hs⟩, ⟨p3, by omega, R3, hG.trans G3⟩, TrI.mk G3 (by decide)⟩
    refine ⟨fun kk ρ u hkk hc hf hb hW hd => ?_, ?_⟩
    · have hkk : kk < 17 := hkk
      exact yield_move _ rfl ⟨hb 0 (by kernel_rfl), next _ _ hW, TrI.mk (World.grownBy.refl _ _) (by decide)⟩
    refine ⟨fun kk ρ u hkk hc hf hb hW hd => ?_, ?_⟩
    · have hkk : kk < 17 := hkk
      have e0 : ρ (.tmp 18) = .pointer (some ⟨g, 0, none⟩) := hd.1 rfl rfl
      obtain ⟨p', hp, hR, hG⟩ := hW
      clear hd hb
      refine yield_call 89 #[.pointer (some ⟨g, 0, none⟩)] (by simp [go_sem, hc, hf, e0]) ?_
      refine (day_any _ _ _ hR (by omega)).mono ?_
      rintro e w3 ⟨d, rfl, p3, l3, l4, R3, G3⟩
      exact ⟨_, rfl, ⟨d, rfl⟩, ⟨p3, by omega, R3, hG.trans G3⟩, TrI.mk G3 (by decide)⟩
    refine ⟨fun kk ρ u hkk hc hf hb hW hd => ?_, ?_⟩
    · have hkk : kk < 17 := hkk
      obtain ⟨a, e0, ha⟩ : IsS 200 (ρ (.tmp 10)) := hd.1 rfl rfl
      obtain ⟨b, e1, hb'⟩ : IsS 200 (ρ (.tmp 15)) := hd.2.1 rfl rfl
      obtain ⟨s, e2, hs⟩ : IsS 200 (ρ (.tmp 17)) := hd.2.2.1 rfl rfl
      obtain ⟨d, e3⟩ : ∃ d : Int, ρ (.tmp 19) = .int .i64 d := hd.2.2.2.1 rfl rfl
      exact yield_value (w' := u) (imA a b s d) (by simp [go_sem, hc, hf, e0, e1, e2, e3]) ⟨⟨a, b, s, d, rfl, ha, hb', hs⟩, next _ _ hW, TrI.mk (World.grownBy.refl _ _) (by decide)⟩
    refine ⟨fun kk ρ u hkk hc hf hb hW hd => ?_, ?_⟩
    · have hkk : kk < 17 := hkk
      obtain ⟨p', hp, hR, hG⟩ := hW
      have hz := hG.size
      exact yield_value (w' := u.alloc (.cells #[.string ⟨#[]⟩, .string ⟨#[]⟩, .string ⟨#[]⟩, .int .i64 0] 57)) (.pointer (some ⟨u.heap.size, 0, none⟩)) (by simp [go_sem, hc, hf]) ⟨⟨_, rfl, by omega, ⟨⟨#[]⟩, ⟨#[]⟩, ⟨#[]⟩, 0, alloc_new' rfl, by decide, by decide, by decide⟩⟩, ⟨p', by omega, hR.alloc _, hG.trans (World.grownBy_alloc _ _ _)⟩, TrI.mk (World.grownBy_alloc _ _ _) (by decide)⟩
    refine ⟨fun kk ρ u hkk hc hf hb hW hd => ?_, ?_⟩
    · have hkk : kk < 17 := hkk
      obtain ⟨B, e0, hB, x1, x2, x3, x4, hX, _⟩ : ∃ B, ρ (.tmp 5) = .pointer (some ⟨B, 0, none⟩) ∧ N ≤ B ∧ ImAt B u := hd.1 rfl rfl
      obtain ⟨a, b, s, d, e1, ha, hb', hs⟩ : IsIm (ρ (.tmp 20)) := hd.2.1 rfl rfl
      obtain ⟨p', hp, hR, hG⟩ := hW
      have f0 := frozen_of_row u B 0 _ _ hX
      have f1 := frozen_of_row u B 1 _ _ hX
      have f2 := frozen_of_row u B 2 _ _ hX
      have f3 := frozen_of_row u B 3 _ _ hX
      have z0 := cell_of_row u B 0 _ _ _ hX
      have z1 := cell_of_row u B 1 _ _ _ hX
      have z2 := cell_of_row u B 2 _ _ _ hX
      have z3 := cell_of_row u B 3 _ _ _ hX
      have ks := row4 (a := .string a) (b := .string b) (c := .string s) (d := .int .i64 d) hX
      clear hd hb
      unfold Yield
      simp [go_sem, hc, hf, e0, e1, f0, f1, f2, f3, z0, z1, z2, z3]
      have hRG := turn_rows (by omega : W0.heap.size ≤ B) (by omega) hG hR ks.2
      exact ⟨⟨p', by omega, hRG.1, hRG.2⟩, by unfold TrI; rw [if_pos rfl]; exact ⟨B, hB, ⟨a, b, s, d, ks.1, ha, hb', hs⟩, ks.2⟩⟩
    trivial
  intro env w1 hW hF
  obtain ⟨B, e15, hB, hI⟩ : ∃ B, env 15 = .pointer (some ⟨B, 0, none⟩) ∧ N ≤ B ∧ ImAt B w1 := hF 15 (of_decide_eq_true (by kernel_rfl)) (fun i hi => by match i with | 0 | 1 | 2 | 3 | 4 | 5 | 6 | 7 | 8 | 9 | 10 | 11 | 12 | 13 | 14 | 15 | 16 => rfl | _ + 17 => simp at hi; omega)
  obtain ⟨p1, hp1, R1, G1⟩ := hW
  have hp1 : p1 ≤ p + 510 := by simpa using hp1
  clear hF next
  have hrng : List.range 51 = [0, 1, 2, 3, 4, 5, 6, 7, 8, 9, 10, 11, 12, 13, 14, 15, 16, 17, 18, 19, 20, 21, 22, 23, 24, 25, 26, 27, 28, 29, 30, 31, 32, 33, 34, 35, 36, 37, 38, 39, 40, 41, 42, 43, 44, 45, 46, 47, 48, 49, 50] := by kernel_rfl
  unfold after
  simp only [List.size_toArray, List.length_cons, List.length_nil, Nat.reduceAdd, hrng, List.map_cons, List.map_nil]
  simp [idxOf, List.findIdx?, List.findIdx?.go, e15]
  clear hrng e15
  have hB0 : w.heap.size < B := by omega
  have hr1 := (G1.block _ hN0 (fun e => by injection e with e; omega)).trans hr0
  replace G1 := G0.trans G1
  clear G0 R0 hr0 hN hN0
  go_wp2_with fail
  refine (odd_any g p1 n _ R1 (by omega) h1 h2).mono ?_
  rintro e' w2 ⟨o, rfl, p2, q0, q1, R2, G2⟩
  have hr2 := (G2.block _ (Array.getElem?_eq_some_iff.1 hr1).1 (fun e => by injection e with e; omega)).trans hr1
  have hI2 := hI.grown G2 (fun e => by injection e with e; omega)
  replace G2 := G1.trans G2
  clear G1 R1 hr1 hI
  obtain ⟨a, b, s, d, hX, ha, hb, hs⟩ := hI2
  cases o with
  | false =>
    have y0 := cell_of_row _ B 0 _ _ _ hX
    have y1 := cell_of_row _ B 1 _ _ _ hX
    have y2 := cell_of_row _ B 2 _ _ _ hX
    have y3 := cell_of_row _ B 3 _ _ _ hX
    have f0 := frozen_of_row _ w.heap.size 0 _ _ hr2
    have f1 := frozen_of_row _ w.heap.size 1 _ _ hr2
    have f2 := frozen_of_row _ w.heap.size 2 _ _ hr2
    have f3 := frozen_of_row _ w.heap.size 3 _ _ hr2
    have z0 := cell_of_row _ w.heap.size 0 _ _ _ hr2
    have z1 := cell_of_row _ w.heap.size 1 _ _ _ hr2
    have z2 := cell_of_row _ w.heap.size 2 _ _ _ hr2
    have z3 := cell_of_row _ w.heap.size 3 _ _ _ hr2
    have ks := row4 (a := (.string a)) (b := (.string b)) (c := (.string s)) (d := (.int .i64 d)) hr2
    have hRG := turn_rows (Nat.le_refl _) hgl G2 R2 ks.2
    clear G2 R2 hr2 hX
    go_wp2_with fail
    revert ks hRG
    generalize ((((w2.setCell ⟨w.heap.size, 0, none⟩ (.string a)).setCell ⟨w.heap.size, 1, none⟩ (.string b)).setCell ⟨w.heap.size, 2, none⟩ (.string s)).setCell ⟨w.heap.size, 3, none⟩ (.int .i64 d)) = U
    intro ks hRG
    have v0 := cell_of_row U w.heap.size 0 _ _ _ ks.1
    have v1 := cell_of_row U w.heap.size 1 _ _ _ ks.1
    have v2 := cell_of_row U w.heap.size 2 _ _ _ ks.1
    have v3 := cell_of_row U w.heap.size 3 _ _ _ ks.1
    exact bodyPost_ret (v := imA a b s d) (by simp [results, Try.results83, go_sem, v0, v1, v2, v3]) rfl ⟨a, b, s, d, rfl, ha, hb, hs, p2, Nat.zero_le _, by omega, hRG.1, hRG.2⟩
  | true =>
    go_wp2_with fail
    refine (pick_any g p2 4 _ R2 (by omega) (by omega) (by omega)).mono ?_
    rintro e' w3 ⟨q, rfl, t0, t1, R3, G3⟩
    have hr3 := (G3.block _ (Array.getElem?_eq_some_iff.1 hr2).1 (fun e => by injection e with e; omega)).trans hr2
    replace hX := (G3.block _ (Array.getElem?_eq_some_iff.1 hX).1 (fun e => by injection e with e; omega)).trans hX
    replace G3 := G2.trans G3
    clear G2 R2 hr2
    obtain rfl | rfl | rfl | rfl : q = 0 ∨ q = 1 ∨ q = 2 ∨ q = 3 := by omega
    · go_wp2_with fail
      refine (word_any g (p2 + 1) 1 _ R3 (by omega) (by omega) (by omega)).mono ?_
      rintro e' w4 ⟨x, rfl, hx, p4, l0, l1, R4, G4⟩
      have hr4 := (G4.block _ (Array.getElem?_eq_some_iff.1 hr3).1 (fun e => by injection e with e; omega)).trans hr3
      replace hX := (G4.block _ (Array.getElem?_eq_some_iff.1 hX).1 (fun e => by injection e with e; omega)).trans hX
      replace G4 := G3.trans G4
      clear G3 R3 hr3
      have fB := frozen_of_row _ B 0 _ _ hX
      have zB := cell_of_row _ B 0 _ _ _ hX
      have hX5 : (w4.setCell ⟨B, 0, none⟩ (.string x)).heap[B]? = some (.cells #[.string x, .string b, .string s, .int .i64 d] 57 (0, 0)) := by have := (set1 (i := 0) (v := (.string x)) hX).1; simpa using this
      have S5 := (set1 (i := 0) (v := (.string x)) hX).2
      have hr5 := (S5.block _ (Array.getElem?_eq_some_iff.1 hr4).1 (fun e => by injection e with e; omega)).trans hr4
      have RG5 := turn_rows (by omega : w.heap.size ≤ B) (by omega) G4 R4 S5
      have R5 := RG5.1
      have G5 := RG5.2
      clear RG5 S5 hX hr4 R4 G4
      have y0 := cell_of_row _ B 0 _ _ _ hX5
      have y1 := cell_of_row _ B 1 _ _ _ hX5
      have y2 := cell_of_row _ B 2 _ _ _ hX5
      have y3 := cell_of_row _ B 3 _ _ _ hX5
      have f0 := frozen_of_row _ w.heap.size 0 _ _ hr5
      have f1 := frozen_of_row _ w.heap.size 1 _ _ hr5
      have f2 := frozen_of_row _ w.heap.size 2 _ _ hr5
      have f3 := frozen_of_row _ w.heap.size 3 _ _ hr5
      have z0 := cell_of_row _ w.heap.size 0 _ _ _ hr5
      have z1 := cell_of_row _ w.heap.size 1 _ _ _ hr5
      have z2 := cell_of_row _ w.heap.size 2 _ _ _ hr5
      have z3 := cell_of_row _ w.heap.size 3 _ _ _ hr5
      have ks := row4 (a := (.string x)) (b := (.string b)) (c := (.string s)) (d := (.int .i64 d)) hr5
      have hRG := turn_rows (Nat.le_refl _) hgl G5 R5 ks.2
      clear G5 R5 hr5 hX5
      go_wp2_with fail
      revert ks hRG
      generalize (((((w4.setCell ⟨B, 0, none⟩ (.string x)).setCell ⟨w.heap.size, 0, none⟩ (.string x)).setCell ⟨w.heap.size, 1, none⟩ (.string b)).setCell ⟨w.heap.size, 2, none⟩ (.string s)).setCell ⟨w.heap.size, 3, none⟩ (.int .i64 d)) = U
      intro ks hRG
      have v0 := cell_of_row U w.heap.size 0 _ _ _ ks.1
      have v1 := cell_of_row U w.heap.size 1 _ _ _ ks.1
      have v2 := cell_of_row U w.heap.size 2 _ _ _ ks.1
      have v3 := cell_of_row U w.heap.size 3 _ _ _ ks.1
      exact bodyPost_ret (v := imA x b s d) (by simp [results, Try.results83, go_sem, v0, v1, v2, v3]) rfl ⟨x, b, s, d, rfl, (by omega), hb, hs, p4, Nat.zero_le _, by omega, hRG.1, hRG.2⟩
    · go_wp2_with fail
      refine (pick_any g (p2 + 1) 2 _ (R3.alloc _) (by omega) (by omega) (by omega)).mono ?_
      rintro e' w4 ⟨q, rfl, t0, t1, R4, G4⟩
      obtain ⟨x, hx, cx⟩ := litS_at (B := w3.heap.size) (L := [⟨#[]⟩, ⟨#[10]⟩]) (alloc_new' rfl) G4 (by have := R3.lt; omega) t0 (by simpa using t1)
      have hxs : x.size ≤ 200 := by simp at hx; rcases hx with rfl | rfl <;> decide
      replace G4 := (World.grownBy_alloc w3 (.cells #[.string ⟨#[]⟩, .string ⟨#[10]⟩] 9) (some g)).trans G4
      have hr4 := (G4.block _ (Array.getElem?_eq_some_iff.1 hr3).1 (fun e => by injection e with e; omega)).trans hr3
      replace hX := (G4.block _ (Array.getElem?_eq_some_iff.1 hX).1 (fun e => by injection e with e; omega)).trans hX
      replace G4 := G3.trans G4
      clear G3 R3 hr3 hx
      have fB := frozen_of_row _ B 1 _ _ hX
      have zB := cell_of_row _ B 1 _ _ _ hX
      have hX5 : (w4.setCell ⟨B, 1, none⟩ (.string x)).heap[B]? = some (.cells #[.string a, .string x, .string s, .int .i64 d] 57 (0, 0)) := by have := (set1 (i := 1) (v := (.string x)) hX).1; simpa using this
      have S5 := (set1 (i := 1) (v := (.string x)) hX).2
      have hr5 := (S5.block _ (Array.getElem?_eq_some_iff.1 hr4).1 (fun e => by injection e with e; omega)).trans hr4
      have RG5 := turn_rows (by omega : w.heap.size ≤ B) (by omega) G4 R4 S5
      have R5 := RG5.1
      have G5 := RG5.2
      clear RG5 S5 hX hr4 R4 G4
      have y0 := cell_of_row _ B 0 _ _ _ hX5
      have y1 := cell_of_row _ B 1 _ _ _ hX5
      have y2 := cell_of_row _ B 2 _ _ _ hX5
      have y3 := cell_of_row _ B 3 _ _ _ hX5
      have f0 := frozen_of_row _ w.heap.size 0 _ _ hr5
      have f1 := frozen_of_row _ w.heap.size 1 _ _ hr5
      have f2 := frozen_of_row _ w.heap.size 2 _ _ hr5
      have f3 := frozen_of_row _ w.heap.size 3 _ _ hr5
      have z0 := cell_of_row _ w.heap.size 0 _ _ _ hr5
      have z1 := cell_of_row _ w.heap.size 1 _ _ _ hr5
      have z2 := cell_of_row _ w.heap.size 2 _ _ _ hr5
      have z3 := cell_of_row _ w.heap.size 3 _ _ _ hr5
      have ks := row4 (a := (.string a)) (b := (.string x)) (c := (.string s)) (d := (.int .i64 d)) hr5
      have hRG := turn_rows (Nat.le_refl _) hgl G5 R5 ks.2
      clear G5 R5 hr5 hX5
      go_wp2_with fail
      revert ks hRG
      generalize (((((w4.setCell ⟨B, 1, none⟩ (.string x)).setCell ⟨w.heap.size, 0, none⟩ (.string a)).setCell ⟨w.heap.size, 1, none⟩ (.string x)).setCell ⟨w.heap.size, 2, none⟩ (.string s)).setCell ⟨w.heap.size, 3, none⟩ (.int .i64 d)) = U
      intro ks hRG
      have v0 := cell_of_row U w.heap.size 0 _ _ _ ks.1
      have v1 := cell_of_row U w.heap.size 1 _ _ _ ks.1
      have v2 := cell_of_row U w.heap.size 2 _ _ _ ks.1
      have v3 := cell_of_row U w.heap.size 3 _ _ _ ks.1
      exact bodyPost_ret (v := imA a x s d) (by simp [results, Try.results83, go_sem, v0, v1, v2, v3]) rfl ⟨a, x, s, d, rfl, ha, hxs, hs, (p2 + 1 + 1), Nat.zero_le _, by omega, hRG.1, hRG.2⟩
    · go_wp2_with fail
      refine (text_any g (p2 + 1) 1 _ R3 (by omega) (by omega) (by omega)).mono ?_
      rintro e' w4 ⟨x, rfl, hx, p4, l0, l1, R4, G4⟩
      have hr4 := (G4.block _ (Array.getElem?_eq_some_iff.1 hr3).1 (fun e => by injection e with e; omega)).trans hr3
      replace hX := (G4.block _ (Array.getElem?_eq_some_iff.1 hX).1 (fun e => by injection e with e; omega)).trans hX
      replace G4 := G3.trans G4
      clear G3 R3 hr3
      have fB := frozen_of_row _ B 2 _ _ hX
      have zB := cell_of_row _ B 2 _ _ _ hX
      have hX5 : (w4.setCell ⟨B, 2, none⟩ (.string x)).heap[B]? = some (.cells #[.string a, .string b, .string x, .int .i64 d] 57 (0, 0)) := by have := (set1 (i := 2) (v := (.string x)) hX).1; simpa using this
      have S5 := (set1 (i := 2) (v := (.string x)) hX).2
      have hr5 := (S5.block _ (Array.getElem?_eq_some_iff.1 hr4).1 (fun e => by injection e with e; omega)).trans hr4
      have RG5 := turn_rows (by omega : w.heap.size ≤ B) (by omega) G4 R4 S5
      have R5 := RG5.1
      have G5 := RG5.2
      clear RG5 S5 hX hr4 R4 G4
      have y0 := cell_of_row _ B 0 _ _ _ hX5
      have y1 := cell_of_row _ B 1 _ _ _ hX5
      have y2 := cell_of_row _ B 2 _ _ _ hX5
      have y3 := cell_of_row _ B 3 _ _ _ hX5
      have f0 := frozen_of_row _ w.heap.size 0 _ _ hr5
      have f1 := frozen_of_row _ w.heap.size 1 _ _ hr5
      have f2 := frozen_of_row _ w.heap.size 2 _ _ hr5
      have f3 := frozen_of_row _ w.heap.size 3 _ _ hr5
      have z0 := cell_of_row _ w.heap.size 0 _ _ _ hr5
      have z1 := cell_of_row _ w.heap.size 1 _ _ _ hr5
      have z2 := cell_of_row _ w.heap.size 2 _ _ _ hr5
      have z3 := cell_of_row _ w.heap.size 3 _ _ _ hr5
      have ks := row4 (a := (.string a)) (b := (.string b)) (c := (.string x)) (d := (.int .i64 d)) hr5
      have hRG := turn_rows (Nat.le_refl _) hgl G5 R5 ks.2
      clear G5 R5 hr5 hX5
      go_wp2_with fail
      revert ks hRG
      generalize (((((w4.setCell ⟨B, 2, none⟩ (.string x)).setCell ⟨w.heap.size, 0, none⟩ (.string a)).setCell ⟨w.heap.size, 1, none⟩ (.string b)).setCell ⟨w.heap.size, 2, none⟩ (.string x)).setCell ⟨w.heap.size, 3, none⟩ (.int .i64 d)) = U
      intro ks hRG
      have v0 := cell_of_row U w.heap.size 0 _ _ _ ks.1
      have v1 := cell_of_row U w.heap.size 1 _ _ _ ks.1
      have v2 := cell_of_row U w.heap.size 2 _ _ _ ks.1
      have v3 := cell_of_row U w.heap.size 3 _ _ _ ks.1
      exact bodyPost_ret (v := imA a b x d) (by simp [results, Try.results83, go_sem, v0, v1, v2, v3]) rfl ⟨a, b, x, d, rfl, ha, hb, hx, p4, Nat.zero_le _, by omega, hRG.1, hRG.2⟩
    · go_wp2_with fail
      refine (pick_any g (p2 + 1) 2 _ (R3.alloc _) (by omega) (by omega) (by omega)).mono ?_
      rintro e' w4 ⟨q, rfl, t0, t1, R4, G4⟩
      have hL : w4.heap[w3.heap.size]? = some (.cells #[.int .i64 (-1), .int .i64 1460970] 3 (0, 0)) := (G4.block _ (by simp) (fun e => by injection e with e; have := R3.lt; omega)).trans (alloc_new' rfl)
      replace G4 := (World.grownBy_alloc w3 (.cells #[.int .i64 (-1), .int .i64 1460970] 3) (some g)).trans G4
      have hr4 := (G4.block _ (Array.getElem?_eq_some_iff.1 hr3).1 (fun e => by injection e with e; omega)).trans hr3
      replace hX := (G4.block _ (Array.getElem?_eq_some_iff.1 hX).1 (fun e => by injection e with e; omega)).trans hX
      replace G4 := G3.trans G4
      clear G3 R3 hr3
      obtain rfl | rfl : q = 0 ∨ q = 1 := by omega
      · have cx := cell_of_row _ w3.heap.size 0 _ _ _ hL
        clear hL
        have fB := frozen_of_row _ B 3 _ _ hX
        have zB := cell_of_row _ B 3 _ _ _ hX
        have hX5 : (w4.setCell ⟨B, 3, none⟩ (.int .i64 (-1))).heap[B]? = some (.cells #[.string a, .string b, .string s, .int .i64 (-1)] 57 (0, 0)) := by have := (set1 (i := 3) (v := (.int .i64 (-1))) hX).1; simpa using this
        have S5 := (set1 (i := 3) (v := (.int .i64 (-1))) hX).2
        have hr5 := (S5.block _ (Array.getElem?_eq_some_iff.1 hr4).1 (fun e => by injection e with e; omega)).trans hr4
        have RG5 := turn_rows (by omega : w.heap.size ≤ B) (by omega) G4 R4 S5
        have R5 := RG5.1
        have G5 := RG5.2
        clear RG5 S5 hX hr4 R4 G4
        have y0 := cell_of_row _ B 0 _ _ _ hX5
        have y1 := cell_of_row _ B 1 _ _ _ hX5
        have y2 := cell_of_row _ B 2 _ _ _ hX5
        have y3 := cell_of_row _ B 3 _ _ _ hX5
        have f0 := frozen_of_row _ w.heap.size 0 _ _ hr5
        have f1 := frozen_of_row _ w.heap.size 1 _ _ hr5
        have f2 := frozen_of_row _ w.heap.size 2 _ _ hr5
        have f3 := frozen_of_row _ w.heap.size 3 _ _ hr5
        have z0 := cell_of_row _ w.heap.size 0 _ _ _ hr5
        have z1 := cell_of_row _ w.heap.size 1 _ _ _ hr5
        have z2 := cell_of_row _ w.heap.size 2 _ _ _ hr5
        have z3 := cell_of_row _ w.heap.size 3 _ _ _ hr5
        have ks := row4 (a := (.string a)) (b := (.string b)) (c := (.string s)) (d := (.int .i64 (-1))) hr5
        have hRG := turn_rows (Nat.le_refl _) hgl G5 R5 ks.2
        clear G5 R5 hr5 hX5
        go_wp2_with fail
        revert ks hRG
        generalize (((((w4.setCell ⟨B, 3, none⟩ (.int .i64 (-1))).setCell ⟨w.heap.size, 0, none⟩ (.string a)).setCell ⟨w.heap.size, 1, none⟩ (.string b)).setCell ⟨w.heap.size, 2, none⟩ (.string s)).setCell ⟨w.heap.size, 3, none⟩ (.int .i64 (-1))) = U
        intro ks hRG
        have v0 := cell_of_row U w.heap.size 0 _ _ _ ks.1
        have v1 := cell_of_row U w.heap.size 1 _ _ _ ks.1
        have v2 := cell_of_row U w.heap.size 2 _ _ _ ks.1
        have v3 := cell_of_row U w.heap.size 3 _ _ _ ks.1
        exact bodyPost_ret (v := imA a b s (-1)) (by simp [results, Try.results83, go_sem, v0, v1, v2, v3]) rfl ⟨a, b, s, -1, rfl, ha, hb, hs, (p2 + 1 + 1), Nat.zero_le _, by omega, hRG.1, hRG.2⟩
      · have cx := cell_of_row _ w3.heap.size 1 _ _ _ hL
        clear hL
        have fB := frozen_of_row _ B 3 _ _ hX
        have zB := cell_of_row _ B 3 _ _ _ hX
        have hX5 : (w4.setCell ⟨B, 3, none⟩ (.int .i64 1460970)).heap[B]? = some (.cells #[.string a, .string b, .string s, .int .i64 1460970] 57 (0, 0)) := by have := (set1 (i := 3) (v := (.int .i64 1460970)) hX).1; simpa using this
        have S5 := (set1 (i := 3) (v := (.int .i64 1460970)) hX).2
        have hr5 := (S5.block _ (Array.getElem?_eq_some_iff.1 hr4).1 (fun e => by injection e with e; omega)).trans hr4
        have RG5 := turn_rows (by omega : w.heap.size ≤ B) (by omega) G4 R4 S5
        have R5 := RG5.1
        have G5 := RG5.2
        clear RG5 S5 hX hr4 R4 G4
        have y0 := cell_of_row _ B 0 _ _ _ hX5
        have y1 := cell_of_row _ B 1 _ _ _ hX5
        have y2 := cell_of_row _ B 2 _ _ _ hX5
        have y3 := cell_of_row _ B 3 _ _ _ hX5
        have f0 := frozen_of_row _ w.heap.size 0 _ _ hr5
        have f1 := frozen_of_row _ w.heap.size 1 _ _ hr5
        have f2 := frozen_of_row _ w.heap.size 2 _ _ hr5
        have f3 := frozen_of_row _ w.heap.size 3 _ _ hr5
        have z0 := cell_of_row _ w.heap.size 0 _ _ _ hr5
        have z1 := cell_of_row _ w.heap.size 1 _ _ _ hr5
        have z2 := cell_of_row _ w.heap.size 2 _ _ _ hr5
        have z3 := cell_of_row _ w.heap.size 3 _ _ _ hr5
        have ks := row4 (a := (.string a)) (b := (.string b)) (c := (.string s)) (d := (.int .i64 1460970)) hr5
        have hRG := turn_rows (Nat.le_refl _) hgl G5 R5 ks.2
        clear G5 R5 hr5 hX5
        go_wp2_with fail
        revert ks hRG
        generalize (((((w4.setCell ⟨B, 3, none⟩ (.int .i64 1460970)).setCell ⟨w.heap.size, 0, none⟩ (.string a)).setCell ⟨w.heap.size, 1, none⟩ (.string b)).setCell ⟨w.heap.size, 2, none⟩ (.string s)).setCell ⟨w.heap.size, 3, none⟩ (.int .i64 1460970)) = U
        intro ks hRG
        have v0 := cell_of_row U w.heap.size 0 _ _ _ ks.1
        have v1 := cell_of_row U w.heap.size 1 _ _ _ ks.1
        have v2 := cell_of_row U w.heap.size 2 _ _ _ ks.1
        have v3 := cell_of_row U w.heap.size 3 _ _ _ ks.1
        exact bodyPost_ret (v := imA a b s 1460970) (by simp [results, Try.results83, go_sem, v0, v1, v2, v3]) rfl ⟨a, b, s, 1460970, rfl, ha, hb, hs, (p2 + 1 + 1), Nat.zero_le _, by omega, hRG.1, hRG.2⟩
end Go.Proofs.Ytlfjnaeepblhiaa
