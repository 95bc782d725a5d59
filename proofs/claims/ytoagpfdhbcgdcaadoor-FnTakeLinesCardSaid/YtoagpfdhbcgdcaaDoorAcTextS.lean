/- The contract of ActivityText, the reference's. -/
import Derived.Test.YtoagpfdhbcgdcaaDoorG2
namespace Go.Proofs.YtoagpfdhbcgdcaaDoor
open Go.RowKit
set_option linter.unusedVariables false
set_option maxRecDepth 8000
set_option linter.unusedSimpArgs false
theorem l10_any (w : World) : Calls Tryd.prog 83 #[] w fun e w' => e = .returned (.slice (some ⟨w.heap.size, 0, none⟩) 6 6) ∧ w'.heap[w.heap.size]? = some (.cells #[.string ⟨#[99, 114, 101, 97, 116, 101]⟩, .string ⟨#[117, 112, 100, 97, 116, 101]⟩, .string ⟨#[100, 101, 108, 101, 116, 101]⟩, .string ⟨#[102, 111, 108, 108, 111, 119]⟩, .string ⟨#[97, 99, 99, 101, 112, 116]⟩, .string ⟨#[117, 110, 100, 111]⟩] 9 (0, 0)) ∧ Ext.of w w' := by
  go_enter Tryd.func83, Tryd.ntmps83
  go_wp2
  go_ret
  exact ⟨rfl, alloc_new' rfl, (Ext.of.refl _).alloc _⟩
set_option maxHeartbeats 4000000 in
theorem atextS_any (kd m : Int) (a b s : ByteArray) (w : World) (ha : a.size ≤ 9223372036854775807) (hb : b.size ≤ 9223372036854775807) (hs : s.size ≤ 9223372036854775807) : Calls Tryd.prog 42 #[acA kd m a b s] w fun e w' => e = .returned (.string (atextV kd m a b s)) ∧ Ext.of w w' := by
  have hE0 : Ext.of w (w.alloc (.cells #[.int .i64 kd, .int .i64 m, .string a, .string b, .string s] 30)) := (Ext.of.refl _).alloc _
  have hc : (w.alloc (.cells #[.int .i64 kd, .int .i64 m, .string a, .string b, .string s] 30)).heap[w.heap.size]? = some (.cells #[.int .i64 kd, .int .i64 m, .string a, .string b, .string s] 30 (0, 0)) := alloc_new' rfl
  have C := fun W => avalS_any kd m a b s W ha hb hs
  go_enter Tryd.func42, Tryd.ntmps42
  cases hv : avalV kd m a b s with
  | false =>
    have R := hid (atext_no hv)
    rw [hv] at C
    clear hv
    go_wp2_with fail
    refine (C _).mono ?_
    rintro e w1 ⟨rfl, x1⟩
    go_wp2_with fail
    go_ret
    exact ⟨ret_s R.out.symm, hE0.trans x1⟩
  | true =>
    have R := hid (atext_yes hv)
    obtain ⟨hk0, hk5, hs8⟩ := aval_parts hv
    have h1 := kindW_size kd
    have h2 := markV_size m
    have h3 := htext_size a b
    have CM := fun W => markS_any m W
    have CH := fun W => htextS_any a b W ha hb
    rw [hv] at C
    clear hv
    go_wp2_with fail
    refine (C _).mono ?_
    rintro e W0 ⟨rfl, x1⟩
    have hc := (x1.block (Array.getElem?_eq_some_iff.1 hc).1).trans hc
    have hE0 := hE0.trans x1
    have d0 := cell_of_row W0 w.heap.size 0 _ _ _ hc
    have d1 := cell_of_row W0 w.heap.size 1 _ _ _ hc
    have d2 := cell_of_row W0 w.heap.size 2 _ _ _ hc
    have d3 := cell_of_row W0 w.heap.size 3 _ _ _ hc
    have d4 := cell_of_row W0 w.heap.size 4 _ _ _ hc
    clear hc x1 C
    go_wp2_with fail
    obtain ⟨K, hK⟩ : ∃ K, kindW kd = K := ⟨_, rfl⟩
    generalize markV m = M at *
    generalize htextV a b = Hx at *
    rw [hK] at h1
    have HR := R.out
    rw [hK] at HR
    have s1 : (⟨#[32]⟩ : ByteArray).size = 1 := rfl
    have L1 : (K).size + (⟨#[32]⟩ : ByteArray).size ≤ 9223372036854775807 := by omega
    have L2 : (K ++ (⟨#[32]⟩ : ByteArray)).size + M.size ≤ 9223372036854775807 := by simp only [ByteArray.size_append]; omega
    have L3 : (K ++ (⟨#[32]⟩ : ByteArray) ++ M).size + (⟨#[32]⟩ : ByteArray).size ≤ 9223372036854775807 := by simp only [ByteArray.size_append]; omega
    have L4 : (K ++ (⟨#[32]⟩ : ByteArray) ++ M ++ (⟨#[32]⟩ : ByteArray)).size + Hx.size ≤ 9223372036854775807 := by simp only [ByteArray.size_append]; omega
    have L5 : (K ++ (⟨#[32]⟩ : ByteArray) ++ M ++ (⟨#[32]⟩ : ByteArray) ++ Hx).size + (⟨#[32]⟩ : ByteArray).size ≤ 9223372036854775807 := by simp only [ByteArray.size_append]; omega
    have L6 : (K ++ (⟨#[32]⟩ : ByteArray) ++ M ++ (⟨#[32]⟩ : ByteArray) ++ Hx ++ (⟨#[32]⟩ : ByteArray)).size + s.size ≤ 9223372036854775807 := by simp only [ByteArray.size_append]; omega
    have next : ∀ k w', (fun k' w' => ∃ p' : Nat, p' ≤ k' ∧ Ext.of W0 w') k w' → (fun k' w' => ∃ p' : Nat, p' ≤ k' ∧ Ext.of W0 w') (k + 1) w' := fun k w' ⟨p', hp, h⟩ => ⟨p', by omega, h⟩
    refine wp_region_steps (W := fun k' w' => ∃ p' : Nat, p' ≤ k' ∧ Ext.of W0 w') (Tr := fun a b => Ext.of a b) (F := fun i v w' => match i with
        | 0 => ∃ B : Nat, v = .slice (some ⟨B, 0, none⟩) 6 6 ∧ w'.heap[B]? = some (.cells #[.string ⟨#[99, 114, 101, 97, 116, 101]⟩, .string ⟨#[117, 112, 100, 97, 116, 101]⟩, .string ⟨#[100, 101, 108, 101, 116, 101]⟩, .string ⟨#[102, 111, 108, 108, 111, 119]⟩, .string ⟨#[97, 99, 99, 101, 112, 116]⟩, .string ⟨#[117, 110, 100, 111]⟩] 9 (0, 0))
        | 1 => v = .pointer (some ⟨w.heap.size, 0, none⟩)
        | 2 => v = .int .i64 kd
        | 3 => ∃ B : Nat, v = .pointer (some ⟨B, kd.toNat, none⟩) ∧ w'.cell? ⟨B, kd.toNat, none⟩ = some (.string K)
        | 4 => v = .string (K)
        | 5 => v = .string (K ++ (⟨#[32]⟩ : ByteArray))
        | 6 => v = .pointer (some ⟨w.heap.size, 1, none⟩)
        | 7 => v = .int .i64 m
        | 8 => v = .string M
        | 9 => v = .string (K ++ (⟨#[32]⟩ : ByteArray) ++ M)
        | 10 => v = .string (K ++ (⟨#[32]⟩ : ByteArray) ++ M ++ (⟨#[32]⟩ : ByteArray))
        | 11 => v = .pointer (some ⟨w.heap.size, 2, none⟩)
        | 12 => v = hdA a b
        | 13 => v = .string Hx
        | 14 => v = .string (K ++ (⟨#[32]⟩ : ByteArray) ++ M ++ (⟨#[32]⟩ : ByteArray) ++ Hx)
        | 15 => v = .string (K ++ (⟨#[32]⟩ : ByteArray) ++ M ++ (⟨#[32]⟩ : ByteArray) ++ Hx ++ (⟨#[32]⟩ : ByteArray))
        | 16 => v = .pointer (some ⟨w.heap.size, 4, none⟩)
        | 17 => v = .string s
        | 18 => v = .string (K ++ (⟨#[32]⟩ : ByteArray) ++ M ++ (⟨#[32]⟩ : ByteArray) ++ Hx ++ (⟨#[32]⟩ : ByteArray) ++ s)
        | 19 => v = .string (K ++ (⟨#[32]⟩ : ByteArray) ++ M ++ (⟨#[32]⟩ : ByteArray) ++ Hx ++ (⟨#[32]⟩ : ByteArray) ++ s)
        | _ => True) (by kernel_rfl) (by kernel_rfl) ?_ ?_ ?_ ?_
    · exact ⟨0, Nat.le_refl _, Ext.of.drew (Ext.of.refl _)⟩
    · intro k a b i v hW hT hF
      match i with
      | 0 => obtain ⟨B, e0, hB⟩ := hF; exact ⟨B, e0, (hT.block (Array.getElem?_eq_some_iff.1 hB).1).trans hB⟩
      | 1 => exact hF
      | 2 => exact hF
      | 3 => obtain ⟨B, e0, hB⟩ := hF; exact ⟨B, e0, hT.cell hB⟩
      | 4 => exact hF
      | 5 => exact hF
      | 6 => exact hF
      | 7 => exact hF
      | 8 => exact hF
      | 9 => exact hF
      | 10 => exact hF
      | 11 => exact hF
      | 12 => exact hF
      | 13 => exact hF
      | 14 => exact hF
      | 15 => exact hF
      | 16 => exact hF
      | 17 => exact hF
      | 18 => exact hF
      | 19 => exact hF
      | _ + 20 => trivial
    · refine ⟨fun k ρ u hk hc hf hb hW hd => ?_, ?_⟩
      · have hk : k < 20 := hk
        obtain ⟨p', hp, hE⟩ := hW
        clear hd hb
        refine yield_call 83 #[] (by simp [go_sem, hc, hf]) ?_
        refine (l10_any _).mono ?_
        rintro e w3 ⟨rfl, hr, x3⟩
        exact ⟨_, rfl, ⟨_, rfl, hr⟩, ⟨p', by omega, hE.trans x3⟩, x3⟩
      refine ⟨fun k ρ u hk hc hf hb hW hd => ?_, ?_⟩
      · have hk : k < 20 := hk
        have e0 : (ρ (.tmp 1)) = .pointer (some ⟨w.heap.size, 0, none⟩) := hb 1 (by kernel_rfl)
        clear hd hb
        exact yield_value (w' := u) (.pointer (some ⟨w.heap.size, 0, none⟩)) (by simp [go_sem, hc, hf, e0]) ⟨rfl, next _ _ hW, Ext.of.refl _⟩
      refine ⟨fun k ρ u hk hc hf hb hW hd => ?_, ?_⟩
      · have hk : k < 20 := hk
        have e0 : (ρ (.tmp 7)) = .pointer (some ⟨w.heap.size, 0, none⟩) := hd.1 rfl rfl
        clear hd hb
        have hW2 := next _ _ hW
        obtain ⟨p', hp, hE⟩ := hW
        have x0 := hE.cell d0
        exact yield_value (w' := u) (.int .i64 kd) (by simp [go_sem, hc, hf, e0, x0]) ⟨rfl, hW2, Ext.of.refl _⟩
      refine ⟨fun k ρ u hk hc hf hb hW hd => ?_, ?_⟩
      · have hk : k < 20 := hk
        obtain ⟨B, e0, hB⟩ : ∃ B : Nat, (ρ (.tmp 6)) = .slice (some ⟨B, 0, none⟩) 6 6 ∧ u.heap[B]? = some (.cells #[.string ⟨#[99, 114, 101, 97, 116, 101]⟩, .string ⟨#[117, 112, 100, 97, 116, 101]⟩, .string ⟨#[100, 101, 108, 101, 116, 101]⟩, .string ⟨#[102, 111, 108, 108, 111, 119]⟩, .string ⟨#[97, 99, 99, 101, 112, 116]⟩, .string ⟨#[117, 110, 100, 111]⟩] 9 (0, 0)) := hd.1 rfl rfl
        have e1 : (ρ (.tmp 8)) = .int .i64 kd := hd.2.1 rfl rfl
        clear hd hb
        have hcl := (cell_of_row u B kd.toNat _ _ _ hB).trans (kindW_at hk0 hk5)
        rw [hK] at hcl
        clear hB
        exact yield_value (w' := u) (.pointer (some ⟨B, kd.toNat, none⟩)) (by simp [go_sem, hc, hf, e0, e1, hk0, IntWalk.i64_in, show kd < 6 by omega]) ⟨⟨B, rfl, hcl⟩, next _ _ hW, Ext.of.refl _⟩
      refine ⟨fun k ρ u hk hc hf hb hW hd => ?_, ?_⟩
      · have hk : k < 20 := hk
        obtain ⟨B, e0, hB⟩ : ∃ B : Nat, (ρ (.tmp 9)) = .pointer (some ⟨B, kd.toNat, none⟩) ∧ u.cell? ⟨B, kd.toNat, none⟩ = some (.string K) := hd.1 rfl rfl
        clear hd hb
        exact yield_value (w' := u) (.string K) (by simp [go_sem, hc, hf, e0, hB]) ⟨rfl, next _ _ hW, Ext.of.refl _⟩
      refine ⟨fun k ρ u hk hc hf hb hW hd => ?_, ?_⟩
      · have hk : k < 20 := hk
        have e0 : (ρ (.tmp 10)) = .string (K) := hd.1 rfl rfl
        clear hd hb
        exact yield_value (w' := u) (.string (K ++ (⟨#[32]⟩ : ByteArray))) (by simp only [execOp, hc, e0]; simp [go_sem, run_sadd L1]) ⟨rfl, next _ _ hW, Ext.of.refl _⟩
      refine ⟨fun k ρ u hk hc hf hb hW hd => ?_, ?_⟩
      · have hk : k < 20 := hk
        have e0 : (ρ (.tmp 1)) = .pointer (some ⟨w.heap.size, 0, none⟩) := hb 1 (by kernel_rfl)
        clear hd hb
        exact yield_value (w' := u) (.pointer (some ⟨w.heap.size, 1, none⟩)) (by simp [go_sem, hc, hf, e0]) ⟨rfl, next _ _ hW, Ext.of.refl _⟩
      refine ⟨fun k ρ u hk hc hf hb hW hd => ?_, ?_⟩
      · have hk : k < 20 := hk
        have e0 : (ρ (.tmp 12)) = .pointer (some ⟨w.heap.size, 1, none⟩) := hd.1 rfl rfl
        clear hd hb
        have hW2 := next _ _ hW
        obtain ⟨p', hp, hE⟩ := hW
        have x0 := hE.cell d1
        exact yield_value (w' := u) (.int .i64 m) (by simp [go_sem, hc, hf, e0, x0]) ⟨rfl, hW2, Ext.of.refl _⟩
      refine ⟨fun k ρ u hk hc hf hb hW hd => ?_, ?_⟩
      · have hk : k < 20 := hk
        have e0 : (ρ (.tmp 13)) = .int .i64 m := hd.1 rfl rfl
        obtain ⟨p', hp, hE⟩ := hW
        clear hd hb
        refine yield_call 84 #[.int .i64 m] (by simp [go_sem, hc, hf, e0]) ?_
        refine (CM _).mono ?_
        rintro e w3 ⟨rfl, rfl⟩
        exact ⟨_, rfl, rfl, ⟨p', by omega, hE⟩, Ext.of.refl _⟩
      refine ⟨fun k ρ u hk hc hf hb hW hd => ?_, ?_⟩
      · have hk : k < 20 := hk
        have e0 : (ρ (.tmp 11)) = .string (K ++ (⟨#[32]⟩ : ByteArray)) := hd.1 rfl rfl
        have e1 : (ρ (.tmp 14)) = .string (M) := hd.2.1 rfl rfl
        clear hd hb
        exact yield_value (w' := u) (.string (K ++ (⟨#[32]⟩ : ByteArray) ++ M)) (by simp only [execOp, hc, e0, e1]; simp [go_sem, run_sadd L2]) ⟨rfl, next _ _ hW, Ext.of.refl _⟩
      refine ⟨fun k ρ u hk hc hf hb hW hd => ?_, ?_⟩
      · have hk : k < 20 := hk
        have e0 : (ρ (.tmp 15)) = .string (K ++ (⟨#[32]⟩ : ByteArray) ++ M) := hd.1 rfl rfl
        clear hd hb
        exact yield_value (w' := u) (.string (K ++ (⟨#[32]⟩ : ByteArray) ++ M ++ (⟨#[32]⟩ : ByteArray))) (by simp only [execOp, hc, e0]; simp [go_sem, run_sadd L3]) ⟨rfl, next _ _ hW, Ext.of.refl _⟩
      refine ⟨fun k ρ u hk hc hf hb hW hd => ?_, ?_⟩
      · have hk : k < 20 := hk
        have e0 : (ρ (.tmp 1)) = .pointer (some ⟨w.heap.size, 0, none⟩) := hb 1 (by kernel_rfl)
        clear hd hb
        exact yield_value (w' := u) (.pointer (some ⟨w.heap.size, 2, none⟩)) (by simp [go_sem, hc, hf, e0]) ⟨rfl, next _ _ hW, Ext.of.refl _⟩
      refine ⟨fun k ρ u hk hc hf hb hW hd => ?_, ?_⟩
      · have hk : k < 20 := hk
        have e0 : (ρ (.tmp 17)) = .pointer (some ⟨w.heap.size, 2, none⟩) := hd.1 rfl rfl
        clear hd hb
        have hW2 := next _ _ hW
        obtain ⟨p', hp, hE⟩ := hW
        have x0 := hE.cell d2
        have x1 := hE.cell d3
        exact yield_value (w' := u) (hdA a b) (by simp [go_sem, hc, hf, e0, x0, x1]) ⟨rfl, hW2, Ext.of.refl _⟩
      refine ⟨fun k ρ u hk hc hf hb hW hd => ?_, ?_⟩
      · have hk : k < 20 := hk
        have e0 : (ρ (.tmp 18)) = hdA a b := hd.1 rfl rfl
        obtain ⟨p', hp, hE⟩ := hW
        clear hd hb
        refine yield_call 85 #[hdA a b] (by simp [go_sem, hc, hf, e0]) ?_
        refine (CH _).mono ?_
        rintro e w3 ⟨rfl, x3⟩
        exact ⟨_, rfl, rfl, ⟨p', by omega, hE.trans x3⟩, x3⟩
      refine ⟨fun k ρ u hk hc hf hb hW hd => ?_, ?_⟩
      · have hk : k < 20 := hk
        have e0 : (ρ (.tmp 16)) = .string (K ++ (⟨#[32]⟩ : ByteArray) ++ M ++ (⟨#[32]⟩ : ByteArray)) := hd.1 rfl rfl
        have e1 : (ρ (.tmp 19)) = .string (Hx) := hd.2.1 rfl rfl
        clear hd hb
        exact yield_value (w' := u) (.string (K ++ (⟨#[32]⟩ : ByteArray) ++ M ++ (⟨#[32]⟩ : ByteArray) ++ Hx)) (by simp only [execOp, hc, e0, e1]; simp [go_sem, run_sadd L4]) ⟨rfl, next _ _ hW, Ext.of.refl _⟩
      refine ⟨fun k ρ u hk hc hf hb hW hd => ?_, ?_⟩
      · have hk : k < 20 := hk
        have e0 : (ρ (.tmp 20)) = .string (K ++ (⟨#[32]⟩ : ByteArray) ++ M ++ (⟨#[32]⟩ : ByteArray) ++ Hx) := hd.1 rfl rfl
        clear hd hb
        exact yield_value (w' := u) (.string (K ++ (⟨#[32]⟩ : ByteArray) ++ M ++ (⟨#[32]⟩ : ByteArray) ++ Hx ++ (⟨#[32]⟩ : ByteArray))) (by simp only [execOp, hc, e0]; simp [go_sem, run_sadd L5]) ⟨rfl, next _ _ hW, Ext.of.refl _⟩
      refine ⟨fun k ρ u hk hc hf hb hW hd => ?_, ?_⟩
      · have hk : k < 20 := hk
        have e0 : (ρ (.tmp 1)) = .pointer (some ⟨w.heap.size, 0, none⟩) := hb 1 (by kernel_rfl)
        clear hd hb
        exact yield_value (w' := u) (.pointer (some ⟨w.heap.size, 4, none⟩)) (by simp [go_sem, hc, hf, e0]) ⟨rfl, next _ _ hW, Ext.of.refl _⟩
      refine ⟨fun k ρ u hk hc hf hb hW hd => ?_, ?_⟩
      · have hk : k < 20 := hk
        have e0 : (ρ (.tmp 22)) = .pointer (some ⟨w.heap.size, 4, none⟩) := hd.1 rfl rfl
        clear hd hb
        have hW2 := next _ _ hW
        obtain ⟨p', hp, hE⟩ := hW
        have x0 := hE.cell d4
        exact yield_value (w' := u) (.string s) (by simp [go_sem, hc, hf, e0, x0]) ⟨rfl, hW2, Ext.of.refl _⟩
      refine ⟨fun k ρ u hk hc hf hb hW hd => ?_, ?_⟩
      · have hk : k < 20 := hk
        have e0 : (ρ (.tmp 21)) = .string (K ++ (⟨#[32]⟩ : ByteArray) ++ M ++ (⟨#[32]⟩ : ByteArray) ++ Hx ++ (⟨#[32]⟩ : ByteArray)) := hd.1 rfl rfl
        have e1 : (ρ (.tmp 23)) = .string (s) := hd.2.1 rfl rfl
        clear hd hb
        exact yield_value (w' := u) (.string (K ++ (⟨#[32]⟩ : ByteArray) ++ M ++ (⟨#[32]⟩ : ByteArray) ++ Hx ++ (⟨#[32]⟩ : ByteArray) ++ s)) (by simp only [execOp, hc, e0, e1]; simp [go_sem, run_sadd L6]) ⟨rfl, next _ _ hW, Ext.of.refl _⟩
      refine ⟨fun k ρ u hk hc hf hb hW hd => ?_, ?_⟩
      · have hk : k < 20 := hk
        exact yield_assign _ rfl ⟨hd.1 rfl rfl, next _ _ hW, Ext.of.refl _⟩
      trivial
    intro env w' hW hF
    obtain ⟨p', hp, hE⟩ := hW
    have y1 : (env 19) = .string (K ++ (⟨#[32]⟩ : ByteArray) ++ M ++ (⟨#[32]⟩ : ByteArray) ++ Hx ++ (⟨#[32]⟩ : ByteArray) ++ s) := hF 19 (of_decide_eq_true (by kernel_rfl))
    clear hF next
    have hr : List.range 25 = [0, 1, 2, 3, 4, 5, 6, 7, 8, 9, 10, 11, 12, 13, 14, 15, 16, 17, 18, 19, 20, 21, 22, 23, 24] := rfl
    unfold after
    simp only [List.size_toArray, List.length_cons, List.length_nil, Nat.reduceAdd, hr, List.map_cons, List.map_nil]
    simp [idxOf, List.findIdx?, List.findIdx?.go, y1]
    clear hr
    go_wp2_with fail
    go_ret
    exact ⟨ret_s HR.symm, hE0.trans hE⟩
end Go.Proofs.YtoagpfdhbcgdcaaDoor
