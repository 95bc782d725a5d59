/- The reference's DayNumber and DateText: whether the text is empty. -/
import Derived.Test.YtlfjnaeepblhiaaDateI
namespace Go.Proofs.Ytlfjnaeepblhiaa
open Go.RowKit
set_option linter.unusedVariables false
set_option linter.unusedSimpArgs false
/-- How many days the first months have. -/
def sumM (y : Int) : Nat → Int
  | 0 => 0
  | k + 1 => sumM y k + mdV y ((k : Int) + 1)
theorem sumM_range (y : Int) : ∀ k, 0 ≤ sumM y k ∧ sumM y k ≤ 31 * k
  | 0 => ⟨Int.le_refl _, Int.le_refl _⟩
  | k + 1 => by
    have := sumM_range y k
    have h := mdV_range y ((k : Int) + 1)
    show 0 ≤ sumM y k + _ ∧ sumM y k + _ ≤ 31 * ((k + 1 : Nat) : Int)
    omega
theorem sumM_end : sumM 4000 11 = 335 := by
  have l : leapV 4000 = true := by unfold leapV; decide
  simp only [sumM]
  unfold mdV
  simp [l]
set_option maxHeartbeats 1000000 in
theorem dnS_any (y m d : Int) (h0 : 1 ≤ y) (h1 : y ≤ 4000) (m0 : 1 ≤ m) (m1 : m ≤ 12) (d0 : 1 ≤ d) (d1 : d ≤ mdV y m) (w : World) : Calls Try.prog 95 #[.int .i64 y, .int .i64 m, .int .i64 d] w fun e w' => ∃ r : Int, e = .returned (.int .i64 r) ∧ 0 ≤ r ∧ r ≤ 1500000 ∧ (y = 4000 → m = 12 → d = 31 → r = 1460969) ∧ Ext.of w w' := by
  have e1 := tdiv_of 4 (y := y - 1) (by omega)
  have e2 := tdiv_of 100 (y := y - 1) (by omega)
  have e3 := tdiv_of 400 (y := y - 1) (by omega)
  have M := mdV_range y m
  have b1 : inB d 1 (mdV y m) = true := inB_yes ⟨d0, d1⟩
  have C := fun W => mdS_any y m h0 h1 m0 m1 W
  obtain ⟨base, hb⟩ : ∃ base, 365 * (y - 1) + (y - 1) / 4 - (y - 1) / 100 + (y - 1) / 400 + d - 1 = base := ⟨_, rfl⟩
  have b2 : 0 ≤ base ∧ base ≤ 1461000 := by omega
  have HB := hid hb
  generalize mdV y m = v at *
  go_enter Try.func95, Try.ntmps95
  go_wp2_with fail
  refine (C _).mono ?_
  rintro e w1 ⟨rfl, x1⟩
  clear C
  go_wp2_with (go_at_call 65; refine (l1In_any _ _ _ _).mono ?_; rintro e w' ⟨rfl, rfl⟩)
  clear e1 e2 e3 b1
  try rw [hb]
  clear hb
  go_loopw [8, 9] (fun n i wr => ∃ (k : Nat), n = .int .i64 (base + sumM y k) ∧ i = .int .i64 ((k : Int) + 1) ∧ (k : Int) + 1 ≤ m ∧ Ext.of w wr) (fun _ i _ => (m - intOf i).toNat)
  case atStart => exact ⟨0, by simp [sumM], rfl, by omega, x1⟩
  case round =>
    obtain ⟨k, rfl, rfl, hk, x⟩ := hrel
    have r := sumM_range y k
    have q := mdV_range y ((k : Int) + 1)
    have hS : sumM y (k + 1) = sumM y k + mdV y ((k : Int) + 1) := rfl
    have HS := hid_ hS
    by_cases hlt : (k : Int) + 1 < m
    · have C := fun W => mdS_any y ((k : Int) + 1) h0 h1 (by omega) (by omega) W
      generalize sumM y k = s at *
      generalize mdV y ((k : Int) + 1) = u at *
      go_wp2_with fail
      refine (C _).mono ?_
      rintro e w2 ⟨rfl, x2⟩
      go_wp2_with fail
      go_roundw
      case rel => exact ⟨k + 1, by rw [HS.out]; go_num, by go_num, by omega, x.trans x2⟩
      case measure => simp [intOf]; omega
    · have hm : m = (k : Int) + 1 := by omega
      have E := hid (show y = 4000 → m = 12 → d = 31 → base + sumM y k = 1460969 by
        intro e1 e2 e3
        have hb := HB.out
        subst e1 e2 e3
        obtain rfl : k = 11 := by omega
        rw [sumM_end]
        omega)
      clear hm HB HS hS
      generalize sumM y k = s at *
      go_wp2_with fail
      go_ret
      exact ⟨_, rfl, by omega, by omega, E.out, x⟩
/-- A block of ten numbers, whichever. -/
def TenAt (w : World) (g : Nat) : Prop := ∃ cs : Array Value, w.heap[g]? = some (.cells cs 3 (0, 0)) ∧ ∀ j, j < 10 → ∃ x : Int, cs[j]? = some (.int .i64 x) ∧ -2000000 ≤ x ∧ x ≤ 2000000
theorem TenAt.ext {w w' : World} {g : Nat} (h : TenAt w g) (x : Ext.of w w') : TenAt w' g := by
  obtain ⟨cs, hc, r⟩ := h
  exact ⟨cs, (x.block (Array.getElem?_eq_some_iff.1 hc).1).trans hc, r⟩
theorem TenAt.cell {w : World} {g k : Nat} (h : TenAt w g) (hk : k < 10) : ∃ x : Int, w.cell? ⟨g, k, none⟩ = some (.int .i64 x) ∧ -2000000 ≤ x ∧ x ≤ 2000000 := by
  obtain ⟨cs, hc, hx⟩ := h
  obtain ⟨x, hx, r⟩ := hx k hk
  exact ⟨x, by rw [cell_of_row w g k _ _ _ hc]; exact hx, r⟩
theorem ten_mk {w : World} {g : Nat} {a b c d e f h i j k : Int} (H : w.heap[g]? = some (.cells #[.int .i64 a, .int .i64 b, .int .i64 c, .int .i64 d, .int .i64 e, .int .i64 f, .int .i64 h, .int .i64 i, .int .i64 j, .int .i64 k] 3 (0, 0)))
    (hall : ∀ x ∈ [a, b, c, d, e, f, h, i, j, k], -2000000 ≤ x ∧ x ≤ 2000000) : TenAt w g := by
  refine ⟨_, H, fun n hn => ?_⟩
  simp only [List.mem_cons, List.not_mem_nil, or_false, forall_eq_or_imp, forall_eq] at hall
  match n with
  | 0 => exact ⟨_, rfl, hall.1⟩
  | 1 => exact ⟨_, rfl, hall.2.1⟩
  | 2 => exact ⟨_, rfl, hall.2.2.1⟩
  | 3 => exact ⟨_, rfl, hall.2.2.2.1⟩
  | 4 => exact ⟨_, rfl, hall.2.2.2.2.1⟩
  | 5 => exact ⟨_, rfl, hall.2.2.2.2.2.1⟩
  | 6 => exact ⟨_, rfl, hall.2.2.2.2.2.2.1⟩
  | 7 => exact ⟨_, rfl, hall.2.2.2.2.2.2.2.1⟩
  | 8 => exact ⟨_, rfl, hall.2.2.2.2.2.2.2.2.1⟩
  | 9 => exact ⟨_, rfl, hall.2.2.2.2.2.2.2.2.2⟩
  | _ + 10 => omega
theorem tdiv_small (x : Int) (h : -2000000 ≤ x ∧ x ≤ 2000000) : -2000000 ≤ x.tdiv 10 ∧ x.tdiv 10 ≤ 2000000 := by
  rcases Int.le_total 0 x with h0 | h0
  · rw [tdiv_of 10 h0]; omega
  · obtain ⟨y, rfl⟩ : ∃ y, x = -y := ⟨-x, by omega⟩
    rw [Int.neg_tdiv, tdiv_of 10 (by omega)]; omega
theorem tmod_small (x : Int) (h : -2000000 ≤ x ∧ x ≤ 2000000) : -2000000 ≤ x.tmod 10 ∧ x.tmod 10 ≤ 2000000 := by
  rcases Int.le_total 0 x with h0 | h0
  · rw [tmod_of 10 h0]; omega
  · obtain ⟨y, rfl⟩ : ∃ y, x = -y := ⟨-x, by omega⟩
    rw [Int.neg_tmod, tmod_of 10 (by omega)]; omega
theorem conv_u8one (W : World) (x : Int) : (convert 22 9 (.slice (some ⟨W.heap.size, 0, none⟩) 1 1)).run Try.prog (W.alloc (.cells #[.int .u8 x] 5)) = .ok (.string (strOfNums [x])) (W.alloc (.cells #[.int .u8 x] 5)) := by
  have hc : (W.alloc (.cells #[.int .u8 x] 5)).heap[W.heap.size]? = some (.cells #[.int .u8 x] 5 (0, 0)) := alloc_new' rfl
  refine run_convert_bytes_arg _ 22 5 (by kernel_rfl) (by kernel_rfl) W.heap.size 0 1 1 [x] rfl (fun i hi => ?_) 9 (by kernel_rfl)
  obtain rfl : i = 0 := by omega
  rw [cell_of_row _ W.heap.size 0 _ _ _ hc]
  rfl
set_option maxRecDepth 8000 in
set_option maxHeartbeats 4000000 in
theorem dateS_any (d : Int) (w : World) : Calls Try.prog 91 #[.int .i64 d] w fun e w' => ∃ t : ByteArray, e = .returned (.string t) ∧ DayT d t ∧ Ext.of w w' := by
  have C1 := fun W => dnS_any 4000 12 31 (by omega) (by omega) (by omega) (by omega) (by omega) (by rw [md_else (by omega)]; decide) W
  cases hb : inB d 0 1460969 with
  | false =>
    have R := hid (dayV_no (d := d) (fun h => by rw [inB_yes h] at hb; cases hb))
    go_enter Try.func91, Try.ntmps91
    go_wp2_with fail
    refine (C1 _).mono ?_
    rintro e w1 ⟨r, rfl, _, _, hr, x1⟩
    obtain rfl := hr (by simp) (by simp) (by simp)
    go_wp2_with (go_at_call 65; refine (l1In_any _ _ _ _).mono ?_; rintro e w' ⟨rfl, rfl⟩)
    go_ret
    exact ⟨_, rfl, dayT_no R.out, x1⟩
  | true =>
    have hd := inB_iff.1 hb
    have R := hid (dayV_yes (d := d) hd)
    have e1 := tdiv_of 366 (y := d) (by omega)
    obtain ⟨hd0, hd1⟩ := hd
    go_enter Try.func91, Try.ntmps91
    go_wp2_with fail
    refine (C1 _).mono ?_
    rintro e w1 ⟨r, rfl, _, _, hr, x1⟩
    obtain rfl := hr (by simp) (by simp) (by simp)
    clear hr C1
    go_wp2_with (go_at_call 65; refine (l1In_any _ _ _ _).mono ?_; rintro e w' ⟨rfl, rfl⟩)
    clear hb
    go_loopw [3] (fun y wr => ∃ q : Int, y = .int .i64 q ∧ 1 ≤ q ∧ q ≤ 4000 ∧ Ext.of w wr) (fun y _ => (4001 - intOf y).toNat)
    case atStart => exact ⟨d / 366 + 1, rfl, by omega, by omega, x1⟩
    case round =>
      obtain ⟨q, rfl, q0, q1, x⟩ := hrel
      clear x1 e1
      by_cases hq : q < 4000
      · go_wp2_with fail
        refine (dnS_any (q + 1) 1 1 (by omega) (by omega) (by omega) (by omega) (by omega) (by have := mdV_range (q + 1) 1; omega) _).mono ?_
        rintro e w2 ⟨r, rfl, l0, l1, _, x2⟩
        have x := x.trans x2
        clear x2
        by_cases hr : r ≤ d
        · go_wp2_with fail
          go_roundw
          case rel => exact ⟨q + 1, rfl, by omega, by omega, x⟩
          case measure => simp [intOf]; omega
        · go_wp2_with fail
          go_loopw [4] (fun m wr => ∃ k : Int, m = .int .i64 k ∧ 1 ≤ k ∧ k ≤ 12 ∧ Ext.of w wr) (fun m _ => (13 - intOf m).toNat)
          case atStart => exact ⟨1, rfl, by omega, by omega, x⟩
          case round =>
            clear x
            obtain ⟨k, rfl, k0, k1, x⟩ := hrel
            by_cases hk : k < 12
            · go_wp2_with fail
              refine (dnS_any q (k + 1) 1 q0 q1 (by omega) (by omega) (by omega) (by have := mdV_range q (k + 1); omega) _).mono ?_
              rintro e w2 ⟨r, rfl, l0, l1, _, x2⟩
              have x := x.trans x2
              clear x2
              by_cases hr : r ≤ d
              · go_wp2_with fail
                go_roundw
                case rel => exact ⟨k + 1, rfl, by omega, by omega, x⟩
                case measure => simp [intOf]; omega
              · go_wp2_with fail
                refine (dnS_any q k 1 q0 q1 k0 k1 (by omega) (by have := mdV_range q k; omega) _).mono ?_
                rintro e w3 ⟨r3, rfl, l3, l4, _, x3⟩
                have x := x.trans x3
                have f1 := tdiv_of 1000 (y := q) (by omega)
                have f2 := tdiv_of 100 (y := q) (by omega)
                have f3 := tdiv_of 10 (y := q) (by omega)
                have f4 := tmod_of 10 (y := q) (by omega)
                have f5 := tmod_of 10 (y := q / 100) (by omega)
                have f6 := tmod_of 10 (y := q / 10) (by omega)
                have f7 := tdiv_of 10 (y := k) (by omega)
                have f8 := tmod_of 10 (y := k) (by omega)
                have g1 := tdiv_small (d - r3 + 1) (by omega)
                have g2 := tmod_small (d - r3 + 1) (by omega)
                clear x3
                go_wp2_with fail
                have hT := ten_mk (w := w3.alloc (.cells #[.int .i64 (q / 1000), .int .i64 (q / 100 % 10), .int .i64 (q / 10 % 10), .int .i64 (q % 10), .int .i64 (-1), .int .i64 (k / 10), .int .i64 (k % 10), .int .i64 (-1), .int .i64 ((d - r3 + 1).tdiv 10), .int .i64 ((d - r3 + 1).tmod 10)] 3)) (alloc_new' rfl)
                  (by simp only [List.mem_cons, List.not_mem_nil, or_false, forall_eq_or_imp, forall_eq]; omega)
                have x := x.alloc (.cells #[.int .i64 (q / 1000), .int .i64 (q / 100 % 10), .int .i64 (q / 10 % 10), .int .i64 (q % 10), .int .i64 (-1), .int .i64 (k / 10), .int .i64 (k % 10), .int .i64 (-1), .int .i64 ((d - r3 + 1).tdiv 10), .int .i64 ((d - r3 + 1).tmod 10)] 3)
                clear f1 f2 f3 f4 f5 f6 f7 f8 g1 g2
                have hcv := conv_u8one
                go_loopw [6, 8] (fun o i wr => ∃ (j : Nat) (t : ByteArray), o = .string t ∧ i = .int .i64 (j : Int) ∧ j ≤ 10 ∧ t.size = j ∧ TenAt wr w3.heap.size ∧ Ext.of w wr) (fun _ i _ => 10 - (intOf i).toNat)
                case atStart => exact ⟨0, _, rfl, rfl, by omega, rfl, hT, x⟩
                case round =>
                  obtain ⟨j, t, rfl, rfl, hj, ht, T, x⟩ := hrel
                  clear hT
                  by_cases hlt : j < 10
                  · obtain ⟨v, hc, v0, v1⟩ := T.cell hlt
                    by_cases hv : v < 0
                    · have L1 : t.size + (⟨#[46]⟩ : ByteArray).size ≤ 9223372036854775807 := by have : (⟨#[46]⟩ : ByteArray).size = 1 := rfl; omega
                      have A1 := fun W => run_add_str (P := Try.prog) L1 W
                      have z1 : (t ++ (⟨#[46]⟩ : ByteArray)).size = j + 1 := by rw [ByteArray.size_append, ht]; rfl
                      clear L1 ht
                      generalize t ++ (⟨#[46]⟩ : ByteArray) = s1 at *
                      go_wp2_with fail
                      go_roundw
                      case rel => exact ⟨j + 1, s1, rfl, by go_num, by omega, z1, T, x⟩
                      case measure => simp [intOf]; omega
                    · have L1 : ∀ u : Int, t.size + (strOfNums [u]).size ≤ 9223372036854775807 := fun u => by rw [strOfNums_size]; simp; omega
                      have A1 := fun W u => run_add_str (P := Try.prog) (L1 u) W
                      have z1 : ∀ u : Int, (t ++ strOfNums [u]).size = j + 1 := fun u => by rw [ByteArray.size_append, ht, strOfNums_size]; rfl
                      clear L1 ht
                      go_wp2_with fail
                      go_roundw
                      case rel => exact ⟨j + 1, _, rfl, by go_num, by omega, z1 _, T.ext ((Ext.of.refl _).alloc _), x.alloc _⟩
                      case measure => simp [intOf]; omega
                  · obtain rfl : j = 10 := by omega
                    go_wp2_with fail
                    go_ret
                    exact ⟨_, rfl, dayT_yes R.out (by omega) (by omega), x⟩
            · go_wp2_with fail
              refine (dnS_any q k 1 q0 q1 k0 k1 (by omega) (by have := mdV_range q k; omega) _).mono ?_
              rintro e w3 ⟨r3, rfl, l3, l4, _, x3⟩
              have x := x.trans x3
              have f1 := tdiv_of 1000 (y := q) (by omega)
              have f2 := tdiv_of 100 (y := q) (by omega)
              have f3 := tdiv_of 10 (y := q) (by omega)
              have f4 := tmod_of 10 (y := q) (by omega)
              have f5 := tmod_of 10 (y := q / 100) (by omega)
              have f6 := tmod_of 10 (y := q / 10) (by omega)
              have f7 := tdiv_of 10 (y := k) (by omega)
              have f8 := tmod_of 10 (y := k) (by omega)
              have g1 := tdiv_small (d - r3 + 1) (by omega)
              have g2 := tmod_small (d - r3 + 1) (by omega)
              clear x3
              go_wp2_with fail
              have hT := ten_mk (w := w3.alloc (.cells #[.int .i64 (q / 1000), .int .i64 (q / 100 % 10), .int .i64 (q / 10 % 10), .int .i64 (q % 10), .int .i64 (-1), .int .i64 (k / 10), .int .i64 (k % 10), .int .i64 (-1), .int .i64 ((d - r3 + 1).tdiv 10), .int .i64 ((d - r3 + 1).tmod 10)] 3)) (alloc_new' rfl)
                (by simp only [List.mem_cons, List.not_mem_nil, or_false, forall_eq_or_imp, forall_eq]; omega)
              have x := x.alloc (.cells #[.int .i64 (q / 1000), .int .i64 (q / 100 % 10), .int .i64 (q / 10 % 10), .int .i64 (q % 10), .int .i64 (-1), .int .i64 (k / 10), .int .i64 (k % 10), .int .i64 (-1), .int .i64 ((d - r3 + 1).tdiv 10), .int .i64 ((d - r3 + 1).tmod 10)] 3)
              clear f1 f2 f3 f4 f5 f6 f7 f8 g1 g2
              have hcv := conv_u8one
              go_loopw [6, 8] (fun o i wr => ∃ (j : Nat) (t : ByteArray), o = .string t ∧ i = .int .i64 (j : Int) ∧ j ≤ 10 ∧ t.size = j ∧ TenAt wr w3.heap.size ∧ Ext.of w wr) (fun _ i _ => 10 - (intOf i).toNat)
              case atStart => exact ⟨0, _, rfl, rfl, by omega, rfl, hT, x⟩
              case round =>
                obtain ⟨j, t, rfl, rfl, hj, ht, T, x⟩ := hrel
                clear hT
                by_cases hlt : j < 10
                · obtain ⟨v, hc, v0, v1⟩ := T.cell hlt
                  by_cases hv : v < 0
                  · have L1 : t.size + (⟨#[46]⟩ : ByteArray).size ≤ 9223372036854775807 := by have : (⟨#[46]⟩ : ByteArray).size = 1 := rfl; omega
                    have A1 := fun W => run_add_str (P := Try.prog) L1 W
                    have z1 : (t ++ (⟨#[46]⟩ : ByteArray)).size = j + 1 := by rw [ByteArray.size_append, ht]; rfl
                    clear L1 ht
                    generalize t ++ (⟨#[46]⟩ : ByteArray) = s1 at *
                    go_wp2_with fail
                    go_roundw
                    case rel => exact ⟨j + 1, s1, rfl, by go_num, by omega, z1, T, x⟩
                    case measure => simp [intOf]; omega
                  · have L1 : ∀ u : Int, t.size + (strOfNums [u]).size ≤ 9223372036854775807 := fun u => by rw [strOfNums_size]; simp; omega
                    have A1 := fun W u => run_add_str (P := Try.prog) (L1 u) W
                    have z1 : ∀ u : Int, (t ++ strOfNums [u]).size = j + 1 := fun u => by rw [ByteArray.size_append, ht, strOfNums_size]; rfl
                    clear L1 ht
                    go_wp2_with fail
                    go_roundw
                    case rel => exact ⟨j + 1, _, rfl, by go_num, by omega, z1 _, T.ext ((Ext.of.refl _).alloc _), x.alloc _⟩
                    case measure => simp [intOf]; omega
                · obtain rfl : j = 10 := by omega
                  go_wp2_with fail
                  go_ret
                  exact ⟨_, rfl, dayT_yes R.out (by omega) (by omega), x⟩
      · go_wp2_with fail
        go_loopw [4] (fun m wr => ∃ k : Int, m = .int .i64 k ∧ 1 ≤ k ∧ k ≤ 12 ∧ Ext.of w wr) (fun m _ => (13 - intOf m).toNat)
        case atStart => exact ⟨1, rfl, by omega, by omega, x⟩
        case round =>
          clear x
          obtain ⟨k, rfl, k0, k1, x⟩ := hrel
          by_cases hk : k < 12
          · go_wp2_with fail
            refine (dnS_any q (k + 1) 1 q0 q1 (by omega) (by omega) (by omega) (by have := mdV_range q (k + 1); omega) _).mono ?_
            rintro e w2 ⟨r, rfl, l0, l1, _, x2⟩
            have x := x.trans x2
            clear x2
            by_cases hr : r ≤ d
            · go_wp2_with fail
              go_roundw
              case rel => exact ⟨k + 1, rfl, by omega, by omega, x⟩
              case measure => simp [intOf]; omega
            · go_wp2_with fail
              refine (dnS_any q k 1 q0 q1 k0 k1 (by omega) (by have := mdV_range q k; omega) _).mono ?_
              rintro e w3 ⟨r3, rfl, l3, l4, _, x3⟩
              have x := x.trans x3
              have f1 := tdiv_of 1000 (y := q) (by omega)
              have f2 := tdiv_of 100 (y := q) (by omega)
              have f3 := tdiv_of 10 (y := q) (by omega)
              have f4 := tmod_of 10 (y := q) (by omega)
              have f5 := tmod_of 10 (y := q / 100) (by omega)
              have f6 := tmod_of 10 (y := q / 10) (by omega)
              have f7 := tdiv_of 10 (y := k) (by omega)
              have f8 := tmod_of 10 (y := k) (by omega)
              have g1 := tdiv_small (d - r3 + 1) (by omega)
              have g2 := tmod_small (d - r3 + 1) (by omega)
              clear x3
              go_wp2_with fail
              have hT := ten_mk (w := w3.alloc (.cells #[.int .i64 (q / 1000), .int .i64 (q / 100 % 10), .int .i64 (q / 10 % 10), .int .i64 (q % 10), .int .i64 (-1), .int .i64 (k / 10), .int .i64 (k % 10), .int .i64 (-1), .int .i64 ((d - r3 + 1).tdiv 10), .int .i64 ((d - r3 + 1).tmod 10)] 3)) (alloc_new' rfl)
                (by simp only [List.mem_cons, List.not_mem_nil, or_false, forall_eq_or_imp, forall_eq]; omega)
              have x := x.alloc (.cells #[.int .i64 (q / 1000), .int .i64 (q / 100 % 10), .int .i64 (q / 10 % 10), .int .i64 (q % 10), .int .i64 (-1), .int .i64 (k / 10), .int .i64 (k % 10), .int .i64 (-1), .int .i64 ((d - r3 + 1).tdiv 10), .int .i64 ((d - r3 + 1).tmod 10)] 3)
              clear f1 f2 f3 f4 f5 f6 f7 f8 g1 g2
              have hcv := conv_u8one
              go_loopw [6, 8] (fun o i wr => ∃ (j : Nat) (t : ByteArray), o = .string t ∧ i = .int .i64 (j : Int) ∧ j ≤ 10 ∧ t.size = j ∧ TenAt wr w3.heap.size ∧ Ext.of w wr) (fun _ i _ => 10 - (intOf i).toNat)
              case atStart => exact ⟨0, _, rfl, rfl, by omega, rfl, hT, x⟩
              case round =>
                obtain ⟨j, t, rfl, rfl, hj, ht, T, x⟩ := hrel
                clear hT
                by_cases hlt : j < 10
                · obtain ⟨v, hc, v0, v1⟩ := T.cell hlt
                  by_cases hv : v < 0
                  · have L1 : t.size + (⟨#[46]⟩ : ByteArray).size ≤ 9223372036854775807 := by have : (⟨#[46]⟩ : ByteArray).size = 1 := rfl; omega
                    have A1 := fun W => run_add_str (P := Try.prog) L1 W
                    have z1 : (t ++ (⟨#[46]⟩ : ByteArray)).size = j + 1 := by rw [ByteArray.size_append, ht]; rfl
                    clear L1 ht
                    generalize t ++ (⟨#[46]⟩ : ByteArray) = s1 at *
                    go_wp2_with fail
                    go_roundw
                    case rel => exact ⟨j + 1, s1, rfl, by go_num, by omega, z1, T, x⟩
                    case measure => simp [intOf]; omega
                  · have L1 : ∀ u : Int, t.size + (strOfNums [u]).size ≤ 9223372036854775807 := fun u => by rw [strOfNums_size]; simp; omega
                    have A1 := fun W u => run_add_str (P := Try.prog) (L1 u) W
                    have z1 : ∀ u : Int, (t ++ strOfNums [u]).size = j + 1 := fun u => by rw [ByteArray.size_append, ht, strOfNums_size]; rfl
                    clear L1 ht
                    go_wp2_with fail
                    go_roundw
                    case rel => exact ⟨j + 1, _, rfl, by go_num, by omega, z1 _, T.ext ((Ext.of.refl _).alloc _), x.alloc _⟩
                    case measure => simp [intOf]; omega
                · obtain rfl : j = 10 := by omega
                  go_wp2_with fail
                  go_ret
                  exact ⟨_, rfl, dayT_yes R.out (by omega) (by omega), x⟩
          · go_wp2_with fail
            refine (dnS_any q k 1 q0 q1 k0 k1 (by omega) (by have := mdV_range q k; omega) _).mono ?_
            rintro e w3 ⟨r3, rfl, l3, l4, _, x3⟩
            have x := x.trans x3
            have f1 := tdiv_of 1000 (y := q) (by omega)
            have f2 := tdiv_of 100 (y := q) (by omega)
            have f3 := tdiv_of 10 (y := q) (by omega)
            have f4 := tmod_of 10 (y := q) (by omega)
            have f5 := tmod_of 10 (y := q / 100) (by omega)
            have f6 := tmod_of 10 (y := q / 10) (by omega)
            have f7 := tdiv_of 10 (y := k) (by omega)
            have f8 := tmod_of 10 (y := k) (by omega)
            have g1 := tdiv_small (d - r3 + 1) (by omega)
            have g2 := tmod_small (d - r3 + 1) (by omega)
            clear x3
            go_wp2_with fail
            have hT := ten_mk (w := w3.alloc (.cells #[.int .i64 (q / 1000), .int .i64 (q / 100 % 10), .int .i64 (q / 10 % 10), .int .i64 (q % 10), .int .i64 (-1), .int .i64 (k / 10), .int .i64 (k % 10), .int .i64 (-1), .int .i64 ((d - r3 + 1).tdiv 10), .int .i64 ((d - r3 + 1).tmod 10)] 3)) (alloc_new' rfl)
              (by simp only [List.mem_cons, List.not_mem_nil, or_false, forall_eq_or_imp, forall_eq]; omega)
            have x := x.alloc (.cells #[.int .i64 (q / 1000), .int .i64 (q / 100 % 10), .int .i64 (q / 10 % 10), .int .i64 (q % 10), .int .i64 (-1), .int .i64 (k / 10), .int .i64 (k % 10), .int .i64 (-1), .int .i64 ((d - r3 + 1).tdiv 10), .int .i64 ((d - r3 + 1).tmod 10)] 3)
            clear f1 f2 f3 f4 f5 f6 f7 f8 g1 g2
            have hcv := conv_u8one
            go_loopw [6, 8] (fun o i wr => ∃ (j : Nat) (t : ByteArray), o = .string t ∧ i = .int .i64 (j : Int) ∧ j ≤ 10 ∧ t.size = j ∧ TenAt wr w3.heap.size ∧ Ext.of w wr) (fun _ i _ => 10 - (intOf i).toNat)
            case atStart => exact ⟨0, _, rfl, rfl, by omega, rfl, hT, x⟩
            case round =>
              obtain ⟨j, t, rfl, rfl, hj, ht, T, x⟩ := hrel
              clear hT
              by_cases hlt : j < 10
              · obtain ⟨v, hc, v0, v1⟩ := T.cell hlt
                by_cases hv : v < 0
                · have L1 : t.size + (⟨#[46]⟩ : ByteArray).size ≤ 9223372036854775807 := by have : (⟨#[46]⟩ : ByteArray).size = 1 := rfl; omega
                  have A1 := fun W => run_add_str (P := Try.prog) L1 W
                  have z1 : (t ++ (⟨#[46]⟩ : ByteArray)).size = j + 1 := by rw [ByteArray.size_append, ht]; rfl
                  clear L1 ht
                  generalize t ++ (⟨#[46]⟩ : ByteArray) = s1 at *
                  go_wp2_with fail
                  go_roundw
                  case rel => exact ⟨j + 1, s1, rfl, by go_num, by omega, z1, T, x⟩
                  case measure => simp [intOf]; omega
                · have L1 : ∀ u : Int, t.size + (strOfNums [u]).size ≤ 9223372036854775807 := fun u => by rw [strOfNums_size]; simp; omega
                  have A1 := fun W u => run_add_str (P := Try.prog) (L1 u) W
                  have z1 : ∀ u : Int, (t ++ strOfNums [u]).size = j + 1 := fun u => by rw [ByteArray.size_append, ht, strOfNums_size]; rfl
                  clear L1 ht
                  go_wp2_with fail
                  go_roundw
                  case rel => exact ⟨j + 1, _, rfl, by go_num, by omega, z1 _, T.ext ((Ext.of.refl _).alloc _), x.alloc _⟩
                  case measure => simp [intOf]; omega
              · obtain rfl : j = 10 := by omega
                go_wp2_with fail
                go_ret
                exact ⟨_, rfl, dayT_yes R.out (by omega) (by omega), x⟩
end Go.Proofs.Ytlfjnaeepblhiaa
