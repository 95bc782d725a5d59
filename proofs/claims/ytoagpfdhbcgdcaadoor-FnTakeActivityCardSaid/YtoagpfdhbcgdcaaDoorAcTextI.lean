/- The contracts of the program's MarkText, HandleText and ActivityText. -/
import Derived.Test.YtoagpfdhbcgdcaaDoorAcText
namespace Go.Proofs.YtoagpfdhbcgdcaaDoor
open Go.RowKit
set_option linter.unusedVariables false
set_option linter.unusedSimpArgs false
set_option maxRecDepth 8000
set_option maxHeartbeats 1000000 in
theorem markI_any (n : Int) (w : World) : Calls Tryd.prog 71 #[.int .i64 n] w fun e w' => e = .returned (.string (markV n)) ∧ w = w' := by
  by_cases hn : 0 ≤ n ∧ n ≤ 1000000000
  · have hV := hid (markV_yes hn)
    obtain ⟨k, rfl⟩ := Int.eq_ofNat_of_zero_le hn.1
    have hk : k ≤ 1000000000 := by omega
    have e1 := Int.tmod_eq_emod_of_nonneg (a := (k : Int)) (b := 36) (by omega)
    have h0 : 0 ≤ (k : Int) % 36 := by omega
    have h1 : (k : Int) % 36 < 36 := by omega
    clear hn
    go_enter Tryd.func71, Tryd.ntmps71
    go_wp2
    clear e1 h0 h1
    go_loopw [0, 3] (fun v s wr => ∃ (j : Nat) (t : ByteArray), v = .int .i64 j ∧ t.size + j ≤ k + 1 ∧ s = .string t ∧ Hid (mkT j t = markV k) ∧ wr = w) (fun v _ _ => (intOf v).toNat)
    case atStart => exact ⟨k, _, rfl, by rw [dig36_eq, dig36_one (by omega)]; omega, rfl, by show _ = _; rw [hV.out, dig36_eq]; rfl, rfl⟩
    case round =>
      obtain ⟨j, t, rfl, hj, rfl, ht, rfl⟩ := hrel
      by_cases hl : j < 36
      · have R := hid ((mkT_end hl t).symm.trans ht.out)
        clear ht hV
        go_wp2
        go_ret
        exact ⟨ret_s R.out, rfl⟩
      · have R := hid ((mkT_more hl t).symm.trans ht.out)
        have e2 := Int.tdiv_eq_ediv_of_nonneg (a := (j : Int)) (b := 36) (by omega)
        have hd : ((j : Int) / 36) = ((j / 36 : Nat) : Int) := by omega
        have e1 := Int.tmod_eq_emod_of_nonneg (a := ((j / 36 : Nat) : Int)) (b := 36) (by omega)
        have e3 : ((j / 36 : Nat) : Int) % 36 = ((j / 36 % 36 : Nat) : Int) := by omega
        have hb : j / 36 ≤ 1000000000 := by omega
        have hb2 : j / 36 % 36 < 36 := by omega
        have hlt : 1 + j / 36 ≤ j := by omega
        clear ht hV
        rw [hd] at e2
        rw [e3] at e1
        clear hd e3
        have hsz := dig36_one hb2
        generalize j / 36 = q at *
        have hs2 : (dig36 (q % 36) ++ t).size = 1 + t.size := by rw [ByteArray.size_append, hsz]
        have H := hid (And.intro hs2 hsz)
        have hmin : min (q % 36 + 1) 36 - q % 36 = 1 := by omega
        clear hs2 hsz
        go_wp2
        go_roundw
        case rel => exact ⟨q, _, rfl, by rw [dig36_eq, H.out.1]; omega, rfl, by rw [dig36_eq]; exact R, trivial⟩
        case measure => simp [intOf]; omega
  · have hV := hid (markV_no hn)
    by_cases h0 : n < 0
    · clear hn
      go_enter Tryd.func71, Tryd.ntmps71
      go_wp2
      go_ret
      exact ⟨ret_s hV.out.symm, rfl⟩
    · have h1 : 1000000000 < n := by omega
      clear hn
      go_enter Tryd.func71, Tryd.ntmps71
      go_wp2
      go_ret
      exact ⟨ret_s hV.out.symm, rfl⟩
set_option maxHeartbeats 1000000 in
theorem htextI_any (a b : ByteArray) (w : World) (ha : a.size ≤ 9223372036854775807) (hb : b.size ≤ 9223372036854775807) : Calls Tryd.prog 72 #[hdA a b] w fun e w' => e = .returned (.string (htextV a b)) ∧ Ext.of w w' := by
  have hE : Ext.of w (w.alloc (.cells #[.string a, .string b] 28)) := (Ext.of.refl _).alloc _
  have hc : (w.alloc (.cells #[.string a, .string b] 28)).heap[w.heap.size]? = some (.cells #[.string a, .string b] 28 (0, 0)) := alloc_new' rfl
  have d0 := cell_of_row _ w.heap.size 0 _ _ _ hc
  have d1 := cell_of_row _ w.heap.size 1 _ _ _ hc
  have C := fun W => hvalI_any a b W ha hb
  clear hc
  go_enter Tryd.func72, Tryd.ntmps72
  cases hv : hvalV a b with
  | false =>
    have R := hid (htext_no hv)
    rw [hv] at C
    clear hv
    go_wp2_with fail
    refine (C _).mono ?_
    rintro e w1 ⟨rfl, x1⟩
    go_wp2_with fail
    go_ret
    exact ⟨ret_s R.out.symm, hE.trans x1⟩
  | true =>
    have R := hid (htext_yes hv)
    have hs := hval_small hv
    have s1 : (⟨#[64]⟩ : ByteArray).size = 1 := rfl
    have L1 : (⟨#[64]⟩ : ByteArray).size + a.size ≤ 9223372036854775807 := by omega
    have L2 : ((⟨#[64]⟩ : ByteArray) ++ a).size + (⟨#[64]⟩ : ByteArray).size ≤ 9223372036854775807 := by rw [ByteArray.size_append]; omega
    have L3 : ((⟨#[64]⟩ : ByteArray) ++ a ++ (⟨#[64]⟩ : ByteArray)).size + b.size ≤ 9223372036854775807 := by rw [ByteArray.size_append, ByteArray.size_append]; omega
    have r1 := fun W => run_sadd (P := Tryd.prog) L1 W
    have r2 := fun W => run_sadd (P := Tryd.prog) L2 W
    have r3 := fun W => run_sadd (P := Tryd.prog) L3 W
    rw [hv] at C
    clear hv s1 L1 L2 L3
    go_wp2_with fail
    refine (C _).mono ?_
    rintro e w1 ⟨rfl, x1⟩
    have d0 := x1.cell d0
    have d1 := x1.cell d1
    go_wp2_with fail
    go_ret
    exact ⟨ret_s R.out.symm, hE.trans x1⟩
/-- The words of the kinds lie where the program's text lays them. -/
def KW (w : World) : Prop := ∀ k : Int, 0 ≤ k → k ≤ 5 → w.cell? ⟨0, k.toNat, none⟩ = some (.string (kindW k))
theorem KW.below {w w' : World} (h : KW w) (hb : Below w.heap.size w w') : KW w' := fun k h0 h1 => (hb.cell (World.block_lt_of_cell? _ _ (h k h0 h1))).trans (h k h0 h1)
theorem KW.ext {w w' : World} (h : KW w) (hx : Ext.of w w') : KW w' := h.below hx.below
set_option maxHeartbeats 4000000 in
theorem atextI_any (kd m : Int) (a b s : ByteArray) (w : World) (hK : KW w) (ha : a.size ≤ 9223372036854775807) (hb : b.size ≤ 9223372036854775807) (hs : s.size ≤ 9223372036854775807) : Calls Tryd.prog 34 #[acA kd m a b s] w fun e w' => e = .returned (.string (atextV kd m a b s)) ∧ Ext.of w w' := by
  have hE0 : Ext.of w (w.alloc (.cells #[.int .i64 kd, .int .i64 m, .string a, .string b, .string s] 30)) := (Ext.of.refl _).alloc _
  have hc : (w.alloc (.cells #[.int .i64 kd, .int .i64 m, .string a, .string b, .string s] 30)).heap[w.heap.size]? = some (.cells #[.int .i64 kd, .int .i64 m, .string a, .string b, .string s] 30 (0, 0)) := alloc_new' rfl
  have C := fun W => avalI_any kd m a b s W ha hb hs
  have a0 := cell_of_row _ w.heap.size 0 _ _ _ hc
  have a1 := cell_of_row _ w.heap.size 1 _ _ _ hc
  have a2 := cell_of_row _ w.heap.size 2 _ _ _ hc
  have a3 := cell_of_row _ w.heap.size 3 _ _ _ hc
  have a4 := cell_of_row _ w.heap.size 4 _ _ _ hc
  go_enter Tryd.func34, Tryd.ntmps34
  cases hv : avalV kd m a b s with
  | false =>
    have R := hid (atext_no hv)
    rw [hv] at C
    clear hv
    go_wp2_with fail
    refine (C _).mono ?_
    rintro e w1 ⟨rfl, x1⟩
    go_wp2_with fail
    go_ret
    exact ⟨ret_s R.out.symm, hE0.trans x1⟩
  | true =>
    have R := hid (atext_yes hv)
    obtain ⟨hk0, hk5, hs8⟩ := aval_parts hv
    have h1 := kindW_size kd
    have h2 := markV_size m
    have h3 := htext_size a b
    have CM := fun W => markI_any m W
    have CH := fun W => htextI_any a b W ha hb
    rw [hv] at C
    clear hv
    go_wp2_with fail
    refine (C _).mono ?_
    rintro e W0 ⟨rfl, x1⟩
    have hc := (x1.block (Array.getElem?_eq_some_iff.1 hc).1).trans hc
    have hE0 := hE0.trans x1
    have d0 := cell_of_row W0 w.heap.size 0 _ _ _ hc
    have d1 := cell_of_row W0 w.heap.size 1 _ _ _ hc
    have d2 := cell_of_row W0 w.heap.size 2 _ _ _ hc
    have d3 := cell_of_row W0 w.heap.size 3 _ _ _ hc
    have d4 := cell_of_row W0 w.heap.size 4 _ _ _ hc
    have dk := hK.ext hE0 kd hk0 hk5
    clear hc x1 C a0 a1 a2 a3 a4 hK
    go_wp2_with fail
    obtain ⟨K, hK⟩ : ∃ K, kindW kd = K := ⟨_, rfl⟩
    generalize markV m = M at *
    generalize htextV a b = Hx at *
    rw [hK] at h1 dk
    have HR := R.out
    rw [hK] at HR
    have s1 : (⟨#[32]⟩ : ByteArray).size = 1 := rfl
    have L1 : (K).size + (⟨#[32]⟩ : ByteArray).size ≤ 9223372036854775807 := by omega
    have L2 : (K ++ (⟨#[32]⟩ : ByteArray)).size + M.size ≤ 9223372036854775807 := by simp only [ByteArray.size_append]; omega
    have L3 : (K ++ (⟨#[32]⟩ : ByteArray) ++ M).size + (⟨#[32]⟩ : ByteArray).size ≤ 9223372036854775807 := by simp only [ByteArray.size_append]; omega
    have L4 : (K ++ (⟨#[32]⟩ : ByteArray) ++ M ++ (⟨#[32]⟩ : ByteArray)).size + Hx.size ≤ 9223372036854775807 := by simp only [ByteArray.size_append]; omega
    have L5 : (K ++ (⟨#[32]⟩ : ByteArray) ++ M ++ (⟨#[32]⟩ : ByteArray) ++ Hx).size + (⟨#[32]⟩ : ByteArray).size ≤ 9223372036854775807 := by simp only [ByteArray.size_append]; omega
    have L6 : (K ++ (⟨#[32]⟩ : ByteArray) ++ M ++ (⟨#[32]⟩ : ByteArray) ++ Hx ++ (⟨#[32]⟩ : ByteArray)).size + s.size ≤ 9223372036854775807 := by simp only [ByteArray.size_append]; omega
    have r1 := fun W => run_sadd (P := Tryd.prog) L1 W
    have r2 := fun W => run_sadd (P := Tryd.prog) L2 W
    have r3 := fun W => run_sadd (P := Tryd.prog) L3 W
    have r4 := fun W => run_sadd (P := Tryd.prog) L4 W
    have r5 := fun W => run_sadd (P := Tryd.prog) L5 W
    have r6 := fun W => run_sadd (P := Tryd.prog) L6 W
    have hk6 : kd < 6 := by omega
    have e0 := more_cell d0
    have e1 := more_cell d1
    have e2 := more_cell d2
    have e3 := more_cell d3
    have e4 := more_cell d4
    have ek := more_cell dk
    clear L1 L2 L3 L4 L5 L6 s1 d0 d1 d2 d3 d4 dk h1 h2 h3 R hK
    refine wp_region_more (by kernel_rfl) (by kernel_rfl) ?_
    repeat (go_big_quiet_step (first | exact more_same (CM _) | exact more_of (CH _)))
    refine wpQuiet_nil ?_
    rintro _ ⟨z, rfl⟩
    go_wp2_with fail
    go_ret
    exact ⟨ret_s HR.symm, hE0.trans ⟨z, rfl⟩⟩
end Go.Proofs.YtoagpfdhbcgdcaaDoor
