/- The contract of the draw of a text. -/
import Derived.Test.YtlfjnaeepblhiaaDrawHd
import Derived.Laws.BytesArg
import Derived.Laws.OwnMore
namespace Go.Proofs.Ytlfjnaeepblhiaa
open Go.RowKit
set_option linter.unusedVariables false
set_option linter.unusedSimpArgs false
theorem litT_at {W W' : World} {B g : Nat} {L : List ByteArray} {T : TypeId} (hb : W.heap[B]? = some (.cells (L.map Value.string).toArray T (0, 0))) (hg : W.grownBy W' (some g)) (hne : B ≠ g) {q : Int} (h0 : 0 ≤ q) (h1 : q < L.length) :
    ∃ x, x ∈ L ∧ W'.cell? ⟨B, q.toNat, none⟩ = some (.string x) := by
  have hlt := (Array.getElem?_eq_some_iff.1 hb).1
  have hq : q.toNat < L.length := by omega
  refine ⟨L[q.toNat], by simp, ?_⟩
  rw [cell_of_row W' B q.toNat _ T (0, 0) ((hg.block B hlt (by simpa using hne)).trans hb)]
  simp [hq]
def z81 : List Value := List.replicate 81 (Value.int .u8 0)
def s81 : ByteArray := strOfNums (List.replicate 81 0)
theorem z81_at {i : Nat} (hi : i < 81) : z81.toArray[i]? = some (.int .u8 ((List.replicate 81 (0 : Int)).getD i 0)) := by
  unfold z81
  rw [List.getElem?_toArray, List.getElem?_replicate, if_pos hi, List.getD_eq_getElem?_getD, List.getElem?_replicate, if_pos hi]
  rfl
theorem make81 (W : World) : (Instr.makeSlice 22 (.int .i64 81) (.int .i64 81)).run Try.prog W = .ok (.slice (some ⟨W.heap.size, 0, none⟩) 81 81) (W.alloc (.cells z81.toArray 5)) := by
  obtain ⟨i, hi, h0, h1, h2⟩ := info_parts (P := Try.prog) (e := 5) (z := .int .u8 0) (size := 1) (bytes := 1) (by kernel_rfl)
  have hr := run_make (P := Try.prog) W 22 5 i (.int .u8 0) Try.underlying22 hi h0 .i64 .i64 81 81 (by omega) (by omega) (by rw [h2]; decide) (by omega)
  rw [hr, h1]
  have : madeCells (Value.int .u8 0).cells ((81 : Int).toNat * 1) = z81.toArray := by
    apply Array.toList_inj.1
    exact toList_madeCells_one _ _
  rw [this]
  rfl
/-- A block of 81 zeroes. -/
def IsZ (g : Nat) (v : Value) (w : World) : Prop := ∃ B : Nat, v = .slice (some ⟨B, 0, none⟩) 81 81 ∧ g < B ∧ w.heap[B]? = some (.cells z81.toArray 5 (0, 0))
theorem IsZ.kept {g : Nat} {v : Value} {w w' : World} (h : IsZ g v w) (hg : Kept g g w w') : IsZ g v w' := by
  obtain ⟨B, rfl, hB, hb⟩ := h
  exact ⟨B, rfl, hB, (hg.block B (Array.getElem?_eq_some_iff.1 hb).1 (by omega) (by omega)).trans hb⟩
theorem zeroes_text {B : Nat} {w : World} (h : w.heap[B]? = some (.cells z81.toArray 5 (0, 0))) :
    (convert 22 9 (.slice (some ⟨B, 0, none⟩) 81 81)).run Try.prog w = .ok (.string s81) w := by
  refine run_convert_bytes_arg w 22 5 Try.underlying22 Try.underlying5 B 0 81 81 (List.replicate 81 0) (by simp) (fun i hi => ?_) 9 Try.underlying9
  rw [Nat.zero_add, cell_of_row w B i _ _ _ h]
  exact z81_at hi
theorem zeroes_size : s81.size ≤ 200 := by decide
set_option maxHeartbeats 1000000 in
set_option maxRecDepth 8000 in
theorem text_any (g p : Nat) (n : Int) (w : World) (h : Rd w g p) (hp : p ≤ 80000) (h1 : 0 ≤ n) (h2 : n ≤ 1048576) :
    Calls Try.prog 88 #[.pointer (some ⟨g, 0, none⟩), .int .i64 n] w fun e w' => ∃ s : ByteArray, e = .returned (.string s) ∧ s.size ≤ 200 ∧ Turn w w' g 0 (p + 20) := by
  go_enter Try.func88, Try.ntmps88
  go_wp2_with fail
  refine (odd_any g p n _ h (by omega) h1 h2).mono ?_
  rintro e' w1 ⟨o, rfl, p1, q0, q1, R1, G1⟩
  have hgl := R1.lt
  cases o with
  | false =>
    go_wp2_with fail
    refine (pick_any g p1 7 _ (R1.alloc _) (by omega) (by omega) (by omega)).mono ?_
    rintro e' w2 ⟨q, rfl, t0, t1, R2, G2⟩
    obtain ⟨x, hx, cx⟩ := litT_at (B := w1.heap.size) (L := [⟨#[]⟩, ⟨#[104, 101, 108, 108, 111, 32, 119, 111, 114, 108, 100]⟩, ⟨#[97, 60, 98, 62, 99, 60, 47, 98, 62, 32, 38, 32, 100]⟩, ⟨#[79, 110, 101, 32, 116, 104, 105, 110, 103, 46, 32, 84, 119, 111, 33]⟩, ⟨#[34, 120, 34]⟩, ⟨#[115, 101, 101, 32, 64, 97, 110, 110, 64, 114, 101, 100, 32, 97, 110, 100, 32, 35, 110, 101, 119, 115, 46]⟩, ⟨#[48, 49, 50, 51, 52, 53, 54, 55, 56, 57, 48, 49, 50, 51, 52, 53, 54, 55, 56, 57, 48, 49, 50, 51, 52, 53, 54, 55, 56, 57, 48, 49, 50, 51, 52, 53, 54, 55, 56, 57, 48, 49, 50, 51, 52, 53, 54, 55, 56, 57, 48, 49, 50, 51, 52, 53, 54, 55, 56, 57, 48, 49, 50, 51, 52, 53, 54, 55, 56, 57, 48, 49, 50, 51, 52, 53, 54, 55, 56, 57]⟩]) (alloc_new' rfl) G2 (by omega) t0 (by simpa using t1)
    have hs : x.size ≤ 200 := by simp at hx; rcases hx with rfl | rfl | rfl | rfl | rfl | rfl | rfl <;> decide
    have T : Turn w w2 g 0 (p + 20) := ⟨p1 + 1, by omega, by omega, R2, G1.trans ((World.grownBy_alloc _ _ _).trans G2)⟩
    clear hx R1 R2 G1 G2 h
    go_wp2_with fail
    go_ret
    exact ⟨x, rfl, hs, T⟩
  | true =>
    go_wp2_with fail
    have next : ∀ k w', (fun k w' => ∃ p', p' ≤ p1 + k ∧ Rd w' g p' ∧ Kept g g w1 w') k w' → (fun k w' => ∃ p', p' ≤ p1 + k ∧ Rd w' g p' ∧ Kept g g w1 w') (k + 1) w' := fun k w' ⟨p', hp, h⟩ => ⟨p', by omega, h⟩
    refine wp_region_steps (W := fun k w' => ∃ p', p' ≤ p1 + k ∧ Rd w' g p' ∧ Kept g g w1 w') (Tr := fun a b => Kept g g a b) (F := fun i v w' => match i with
        | 0 => IsZ g v w'
        | 1 => IsS 200 v
        | 2 => IsLit g g 3 (IsS 200) 9 v w'
        | 3 => v = .pointer (some ⟨g, 0, none⟩)
        | 4 => IsI 0 2 v
        | 5 => IsAt g g (IsS 200) v w'
        | 6 => IsS 200 v
        | 7 => IsS 200 v
        | _ => True) (by kernel_rfl) (by kernel_rfl) ?_ ?_ ?_ ?_
    · exact ⟨p1, by omega, R1.drewN 1, Kept.drew _ _ _⟩
    · intro k a b i v hW hT hF
      match i with
      | 0 => exact IsZ.kept hF hT
      | 1 => exact hF
      | 2 => exact IsLit.kept hF hT
      | 3 => exact hF
      | 4 => exact hF
      | 5 => exact IsAt.kept hF hT
      | 6 => exact hF
      | 7 => exact hF
      | _ + 8 => trivial
    · refine ⟨fun k ρ u hk hc hf hb hW hd => ?_, ?_⟩
      · have hk : k < 8 := hk
        obtain ⟨p', hp, hR, hG⟩ := hW
        have hz := hR.lt
        clear hd hb
        have hm := make81 u
        refine yield_value (w' := u.alloc (.cells z81.toArray 5)) (.slice (some ⟨u.heap.size, 0, none⟩) 81 81) ?_ ⟨⟨u.heap.size, rfl, by omega, alloc_new rfl⟩, ⟨p', by omega, hR.alloc _, hG.trans (Kept.alloc _ _ _ _)⟩, Kept.alloc _ _ _ _⟩
        simp [execOp, hc, hm]
      refine ⟨fun k ρ u hk hc hf hb hW hd => ?_, ?_⟩
      · have hk : k < 8 := hk
        have e0 : IsZ g (ρ (.tmp 8)) u := hd.1 rfl rfl
        obtain ⟨B, eB, hB, hb'⟩ := e0
        clear hd hb
        have hz := zeroes_text hb'
        refine yield_value (w' := u) (.string s81) ?_ ⟨⟨_, rfl, zeroes_size⟩, next _ _ hW, Kept.refl _ _ _⟩
        simp [execOp, eB, hz]
      refine ⟨fun k ρ u hk hc hf hb hW hd => ?_, ?_⟩
      · have hk : k < 8 := hk
        obtain ⟨s, e0, hs⟩ : IsS 200 (ρ (.tmp 9)) := hd.1 rfl rfl
        obtain ⟨p', hp, hR, hG⟩ := hW
        have hz := hR.lt
        clear hd hb
        refine yield_value (w' := u.alloc (.cells #[.string ⟨#[10]⟩, .string s, .string ⟨#[97, 127]⟩] 9)) (.slice (some ⟨u.heap.size, 0, none⟩) 3 3) (by simp [go_sem, hc, hf, e0]) ⟨⟨u.heap.size, [.string ⟨#[10]⟩, .string s, .string ⟨#[97, 127]⟩], rfl, by omega, by omega, alloc_new rfl, rfl, ?_⟩, ⟨p', by omega, hR.alloc _, hG.trans (Kept.alloc _ _ _ _)⟩, Kept.alloc _ _ _ _⟩
        simp only [List.forall_mem_cons]
        exact ⟨⟨_, rfl, by decide⟩, ⟨_, rfl, hs⟩, ⟨_, rfl, by decide⟩, fun _ h => by cases h⟩
      refine ⟨fun k ρ u hk hc hf hb hW hd => ?_, ?_⟩
      · have hk : k < 8 := hk
        exact yield_move _ rfl ⟨hb 0 (by kernel_rfl), next _ _ hW, Kept.refl _ _ _⟩
      refine ⟨fun k ρ u hk hc hf hb hW hd => ?_, ?_⟩
      · have hk : k < 8 := hk
        have e0 : (ρ (.tmp 11)) = .pointer (some ⟨g, 0, none⟩) := hd.1 rfl rfl
        obtain ⟨p', hp, hR, hG⟩ := hW
        clear hd hb
        refine yield_call 44 #[.pointer (some ⟨g, 0, none⟩), .int .i64 3] (by simp [go_sem, hc, hf, e0]) ?_
        refine (pick_any _ _ _ _ hR (by omega) (by omega) (by omega)).mono ?_
        rintro e w3 ⟨q, rfl, q0, q1, R3, G3⟩
        exact ⟨_, rfl, ⟨q, rfl, q0, by omega⟩, ⟨p' + 1, by omega, R3, hG.trans (.of G3)⟩, .of G3⟩
      refine ⟨fun k ρ u hk hc hf hb hW hd => ?_, ?_⟩
      · have hk : k < 8 := hk
        have e0 : IsLit g g 3 (IsS 200) 9 (ρ (.tmp 10)) u := hd.1 rfl rfl
        obtain ⟨q1, e1, l1, u1⟩ : IsI 0 2 (ρ (.tmp 12)) := hd.2.1 rfl rfl
        clear hd hb
        obtain ⟨B, eB, hA⟩ := IsLit.at e0 (q := q1) (by omega) (by omega)
        clear e0
        exact yield_value (w' := u) _ (by simp [go_sem, hc, hf, eB, e1, IntWalk.i64_in, show q1 < 3 by omega, l1]) ⟨hA, next _ _ hW, Kept.refl _ _ _⟩
      refine ⟨fun k ρ u hk hc hf hb hW hd => ?_, ?_⟩
      · have hk : k < 8 := hk
        have e0 : IsAt g g (IsS 200) (ρ (.tmp 13)) u := hd.1 rfl rfl
        obtain ⟨B, j, x, eB, _, _, hx, hq⟩ := e0
        clear hd hb
        obtain ⟨q, rfl, hq⟩ := hq
        exact yield_value (w' := u) _ (by simp [go_sem, hc, hf, eB, hx]) ⟨⟨q, rfl, hq⟩, next _ _ hW, Kept.refl _ _ _⟩
      refine ⟨fun k ρ u hk hc hf hb hW hd => ?_, ?_⟩
      · have hk : k < 8 := hk
        exact yield_assign _ rfl ⟨hd.1 rfl rfl, next _ _ hW, Kept.refl _ _ _⟩
      trivial
    intro env w' hW hF
    obtain ⟨p', hp, hR, hG⟩ := hW
    have hG' : w.grownBy w' (some g) := G1.trans ⟨hG.os, hG.tape, hG.output, hG.size, fun k hk hne => hG.block k hk (fun e => hne (by rw [e])) (fun e => hne (by rw [e]))⟩
    obtain ⟨s, y7, hs⟩ : IsS 200 (env 7) := hF 7 (of_decide_eq_true (by kernel_rfl))
    replace hp : p' ≤ p1 + 8 := by simpa using hp
    clear hF next
    have hr : List.range 20 = [0, 1, 2, 3, 4, 5, 6, 7, 8, 9, 10, 11, 12, 13, 14, 15, 16, 17, 18, 19] := rfl
    unfold after
    simp only [List.size_toArray, List.length_cons, List.length_nil, Nat.reduceAdd, hr, List.map_cons, List.map_nil]
    simp [idxOf, List.findIdx?, List.findIdx?.go, y7]
    clear hr
    go_wp2
    go_ret
    exact ⟨s, rfl, hs, p', by omega, by omega, hR, hG'⟩
end Go.Proofs.Ytlfjnaeepblhiaa
