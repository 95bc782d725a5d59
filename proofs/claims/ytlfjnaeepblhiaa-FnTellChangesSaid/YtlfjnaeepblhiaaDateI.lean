/- The program's DateText: whether its text is empty. -/
import Derived.Test.YtlfjnaeepblhiaaDays
import Derived.Laws.BytesArg
namespace Go.Proofs.Ytlfjnaeepblhiaa
open Go.RowKit
set_option linter.unusedVariables false
set_option linter.unusedSimpArgs false
/-- How many days the years ahead of a year have. -/
@[irreducible] def dbV (y : Int) : Int := 365 * (y - 1) + (y - 1) / 4 - (y - 1) / 100 + (y - 1) / 400
theorem dbV_eq (y : Int) : dbV y = 365 * (y - 1) + (y - 1) / 4 - (y - 1) / 100 + (y - 1) / 400 := by unfold dbV; rfl
theorem db_end : dbV 4001 = 1460970 := by rw [dbV_eq]; decide
theorem db_range {y : Int} (h0 : 1 ≤ y) (h1 : y ≤ 4001) : 0 ≤ dbV y ∧ dbV y ≤ 1460970 := by rw [dbV_eq]; omega
theorem db_start {d : Int} (h0 : 0 ≤ d) : dbV (d / 366 + 1) ≤ d := by rw [dbV_eq]; omega
theorem db_small {y d : Int} (hd : d ≤ 1460969) (h : dbV y ≤ d) : y ≤ 4000 := by rw [dbV_eq] at h; omega
theorem db_next {y : Int} (h0 : 1 ≤ y) : dbV (y + 1) = dbV y + (if leapV y then 366 else 365) := by
  rw [dbV_eq, dbV_eq]
  cases h : leapV y with
  | true =>
    unfold leapV at h
    simp only [decide_eq_true_eq] at h
    simp only [if_true]
    omega
  | false =>
    unfold leapV at h
    simp only [decide_eq_false_iff_not] at h
    simp only [Bool.false_eq_true, if_false]
    omega
/-- How many days the months from the m-th on have. -/
@[irreducible] def restV (y m : Int) : Int := (if leapV y ∧ m ≤ 2 then 1 else 0) + (if m = 1 then 365 else if m = 2 then 334 else if m = 3 then 306 else if m = 4 then 275 else if m = 5 then 245 else if m = 6 then 214 else if m = 7 then 184 else if m = 8 then 153 else if m = 9 then 122 else if m = 10 then 92 else if m = 11 then 61 else if m = 12 then 31 else 0)
theorem rest_one (y : Int) : restV y 1 = if leapV y then 366 else 365 := by unfold restV; cases leapV y <;> simp
theorem rest_next (y : Int) {m : Int} (h0 : 1 ≤ m) (h1 : m ≤ 12) : restV y m = mdV y m + restV y (m + 1) := by
  obtain rfl | rfl | rfl | rfl | rfl | rfl | rfl | rfl | rfl | rfl | rfl | rfl : m = 1 ∨ m = 2 ∨ m = 3 ∨ m = 4 ∨ m = 5 ∨ m = 6 ∨ m = 7 ∨ m = 8 ∨ m = 9 ∨ m = 10 ∨ m = 11 ∨ m = 12 := by omega
  all_goals
    unfold restV mdV
    cases leapV y <;> simp
theorem rest_end (y : Int) : restV y 13 = 0 := by unfold restV; simp
theorem dbI_any (y : Int) (h0 : 1 ≤ y) (h1 : y ≤ 4001) (w : World) : Calls Try.prog 92 #[.int .i64 y] w fun e w' => e = .returned (.int .i64 (dbV y)) ∧ w = w' := by
  have e1 := tdiv_of 4 (y := y - 1) (by omega)
  have e2 := tdiv_of 100 (y := y - 1) (by omega)
  have e3 := tdiv_of 400 (y := y - 1) (by omega)
  have R := hid_ (dbV_eq y)
  go_enter Try.func92, Try.ntmps92
  go_wp2
  go_ret
  exact ⟨ret_i64 R.out.symm, rfl⟩
/-- A block of n bytes, whichever. -/
def BytesAt (w : World) (g n : Nat) : Prop := ∃ cs : Array Value, w.heap[g]? = some (.cells cs 5 (0, 0)) ∧ cs.size = n ∧ ∀ j, j < n → ∃ x : Int, cs[j]? = some (.int .u8 x)
theorem BytesAt.set {w : World} {g n i : Nat} (h : BytesAt w g n) (hi : i < n) (x : Int) : BytesAt (w.setCell ⟨g, i, none⟩ (.int .u8 x)) g n := by
  obtain ⟨cs, hc, hs, hx⟩ := h
  refine ⟨cs.setIfInBounds i (.int .u8 x), heap_setCell_same w g i cs _ _ hc, by simpa using hs, fun j hj => ?_⟩
  by_cases e : i = j
  · subst e; exact ⟨x, by simp [hs, hi]⟩
  · obtain ⟨y, hy⟩ := hx j hj
    exact ⟨y, by rw [Array.getElem?_setIfInBounds_ne e]; exact hy⟩
theorem BytesAt.cell {w : World} {g n i : Nat} (h : BytesAt w g n) (hi : i < n) : ∃ x : Int, w.cell? ⟨g, i, none⟩ = some (.int .u8 x) := by
  obtain ⟨cs, hc, hs, hx⟩ := h
  obtain ⟨x, hx⟩ := hx i hi
  exact ⟨x, by rw [cell_of_row w g i _ _ _ hc]; exact hx⟩
theorem BytesAt.conv {w : World} {g n : Nat} (h : BytesAt w g n) : ∃ t : ByteArray, t.size = n ∧ (convert 22 9 (.slice (some ⟨g, 0, none⟩) n n)).run Try.prog w = .ok (.string t) w := by
  have hall : ∀ k, k ≤ n → ∃ xs : List Int, xs.length = k ∧ ∀ i, i < k → w.cell? ⟨g, i, none⟩ = some (.int .u8 (xs.getD i 0)) := by
    intro k
    induction k with
    | zero => intro _; exact ⟨[], rfl, fun i hi => by omega⟩
    | succ k ih =>
      intro hk
      obtain ⟨xs, hl, hx⟩ := ih (by omega)
      obtain ⟨x, hc⟩ := h.cell (i := k) (by omega)
      refine ⟨xs ++ [x], by simp [hl], fun i hi => ?_⟩
      by_cases e : i = k
      · subst e; rw [hc]; simp [← hl]
      · rw [hx i (by omega)]
        have : i < xs.length := by omega
        simp [List.getD_eq_getElem?_getD, List.getElem?_append_left this]
  obtain ⟨xs, hl, hx⟩ := hall n (Nat.le_refl _)
  exact ⟨strOfNums xs, by rw [strOfNums_size, hl], run_convert_bytes_arg w 22 5 (by kernel_rfl) (by kernel_rfl) g 0 n n xs hl (fun i hi => by rw [Nat.zero_add]; exact hx i hi) 9 (by kernel_rfl)⟩
theorem bytesAt_own {w : World} {base g n : Nat} {vs : List Value} (o : w.ownsRow base 5 1 (.slice (some ⟨g, 0, none⟩) n n) n vs) (hv : ∀ j, j < n → ∃ x : Int, vs[j]? = some (.int .u8 x)) : BytesAt w g n := by
  rcases o.2 with ⟨q, _⟩ | ⟨g', cap, cur, q, _, hg, _, _, hsz, htk⟩
  · cases q
  · injection q with q1 q2 q3
    injection q1 with q1
    injection q1 with q1
    subst q1; subst q3
    refine ⟨cur, hg, by omega, fun j hj => ?_⟩
    obtain ⟨x, hx⟩ := hv j hj
    refine ⟨x, ?_⟩
    rw [← htk, List.getElem?_take_of_lt (by omega)] at hx
    simpa using hx
theorem zeros_at (n : Nat) (h : n = 2 ∨ n = 4) : ∀ j, j < n → ∃ x : Int, (madeCells (Value.int .u8 0).cells (n * 1)).toList[j]? = some (.int .u8 x) := by
  have h2 : (madeCells (Value.int .u8 0).cells (2 * 1)).toList = [.int .u8 0, .int .u8 0] := by kernel_rfl
  have h4 : (madeCells (Value.int .u8 0).cells (4 * 1)).toList = [.int .u8 0, .int .u8 0, .int .u8 0, .int .u8 0] := by kernel_rfl
  rcases h with rfl | rfl
  · rw [h2]; intro j hj; obtain rfl | rfl : j = 0 ∨ j = 1 := by omega
    all_goals exact ⟨0, rfl⟩
  · rw [h4]; intro j hj; obtain rfl | rfl | rfl | rfl : j = 0 ∨ j = 1 ∨ j = 2 ∨ j = 3 := by omega
    all_goals exact ⟨0, rfl⟩
set_option maxHeartbeats 1000000 in
theorem padI_any (k : Int) (n : Nat) (h0 : 0 ≤ k) (h1 : k ≤ 1000000) (hn : n = 2 ∨ n = 4) (w : World) : Calls Try.prog 94 #[.int .i64 k, .int .i64 (n : Int)] w fun e w' => ∃ t : ByteArray, e = .returned (.string t) ∧ t.size = n ∧ Ext.of w w' := by
  obtain ⟨i0, hi, hz0, hz1, hz2⟩ := info_parts (show (Try.prog.info? 5).map (fun i => (i.zero, i.size, i.bytes)) = some (some (.int .u8 0), 1, 1) by kernel_rfl)
  have hz := zeros_at n hn
  have hn4 : n ≤ 4 := by omega
  have hn2 : 2 ≤ n := by omega
  clear hn
  go_enter Try.func94, Try.ntmps94
  go_wp2_with (at_make; refine wpList_make_full _ rfl _ _ 22 rfl w.heap.size 5 i0 (.int .u8 0) 1 Try.underlying22 hi hz0 hz1 .i64 .i64 n n n rfl rfl rfl rfl (by rw [hz2]; omega) (by unfold maxLen; omega) (Nat.le_refl _) ?_; intro w1 hown hg)
  have hb : Below w.heap.size w w1 := below_of_grown hg (Nat.le_refl _) (by simp)
  have B0 := bytesAt_own hown hz
  clear hown hg hz hi hz0 hz1 hz2
  go_loopw [0, 6] (fun v i wr => ∃ (q : Int) (j : Nat), v = .int .i64 q ∧ 0 ≤ q ∧ q ≤ 1000000 ∧ j ≤ n ∧ i = .int .i64 ((j : Int) - 1) ∧ BytesAt wr w.heap.size n ∧ Below w.heap.size w wr) (fun _ i _ => (intOf i + 1).toNat)
  case atStart => exact ⟨k, n, rfl, h0, h1, Nat.le_refl _, rfl, B0, hb⟩
  case round =>
    obtain ⟨q, j, rfl, q0, q1, hj, rfl, B, hb⟩ := hrel
    by_cases hlt : 1 ≤ j
    · have e1 := tmod_of 10 (y := q) q0
      have e2 := tdiv_of 10 (y := q) q0
      obtain ⟨i, rfl⟩ : ∃ i, j = i + 1 := ⟨j - 1, by omega⟩
      rw [show ((i + 1 : Nat) : Int) - 1 = (i : Int) by omega]
      obtain ⟨x, hc⟩ := B.cell (i := i) (by omega)
      have hf : wr.frozen? ⟨w.heap.size, i, none⟩ = false := by obtain ⟨cs, hcs, _⟩ := B; exact frozen_of_row wr w.heap.size i _ _ hcs
      go_wp2
      go_roundw
      case rel => exact ⟨_, i, rfl, by omega, by omega, by omega, rfl, B.set (by omega) _, hb.setCell (p := ⟨w.heap.size, i, none⟩) (Nat.le_refl _) _⟩
      case measure => simp [intOf]
    · obtain rfl : j = 0 := by omega
      obtain ⟨t, ht, hcv⟩ := B.conv
      go_wp2
      go_ret
      exact ⟨t, rfl, ht, Ext.of_below hb⟩
theorem run_add_str {P : Program} {a b : ByteArray} (h : a.size + b.size ≤ 9223372036854775807) (w : World) : (Op.stringOp .add a b).run P w = .ok (.string (a ++ b)) w := by
  simp [Op.stringOp, go_sem]
  omega
/-- Whether a day has a text. -/
@[irreducible] def dayV (d : Int) : Bool := inB d 0 1460969
theorem dayV_yes {d : Int} (h : 0 ≤ d ∧ d ≤ 1460969) : dayV d = true := by unfold dayV; exact inB_yes h
theorem dayV_no {d : Int} (h : ¬ (0 ≤ d ∧ d ≤ 1460969)) : dayV d = false := by unfold dayV; exact inB_no h
/-- What is known of a day's text. -/
def DayT (d : Int) (t : ByteArray) : Prop := (dayV d = true → 0 < t.size) ∧ (dayV d = false → t = ⟨#[]⟩) ∧ t.size ≤ 10
theorem dayT_no {d : Int} (h : dayV d = false) : DayT d ⟨#[]⟩ := ⟨fun e => (by rw [h] at e; cases e), fun _ => rfl, Nat.zero_le _⟩
theorem dayT_yes {d : Int} {t : ByteArray} (h : dayV d = true) (h0 : 0 < t.size) (h1 : t.size ≤ 10) : DayT d t := ⟨fun _ => h0, fun e => (by rw [h] at e; cases e), h1⟩
set_option maxRecDepth 4000 in
set_option maxHeartbeats 2000000 in
theorem dateI_any (d : Int) (w : World) : Calls Try.prog 87 #[.int .i64 d] w fun e w' => ∃ t : ByteArray, e = .returned (.string t) ∧ DayT d t ∧ Ext.of w w' := by
  have D1 := hid_ db_end
  have C1 := fun W => dbI_any 4001 (by omega) (by omega) W
  rw [db_end] at C1
  by_cases hd0 : d < 0
  · have R := hid (dayV_no (d := d) (by omega))
    go_enter Try.func87, Try.ntmps87
    go_wp2
    go_ret
    exact ⟨_, rfl, dayT_no R.out, Ext.of.refl _⟩
  · by_cases hd1 : 1460970 ≤ d
    · have R := hid (dayV_no (d := d) (by omega))
      go_enter Try.func87, Try.ntmps87
      go_wp2_with fail
      refine (C1 _).mono ?_
      rintro e w1 ⟨rfl, rfl⟩
      go_wp2_with fail
      go_ret
      exact ⟨_, rfl, dayT_no R.out, Ext.of.refl _⟩
    · have R := hid (dayV_yes (d := d) (by omega))
      have e1 := tdiv_of 366 (y := d) (by omega)
      have hst := db_start (d := d) (by omega)
      go_enter Try.func87, Try.ntmps87
      go_wp2_with fail
      refine (C1 _).mono ?_
      rintro e w1 ⟨rfl, rfl⟩
      go_wp2_with fail
      clear C1
      go_loop [3] (fun y => ∃ q : Int, y = .int .i64 q ∧ 1 ≤ q ∧ dbV q ≤ d) (fun y => (4001 - intOf y).toNat)
      case atStart => exact ⟨d / 366 + 1, rfl, by omega, hst⟩
      case round =>
        obtain ⟨q, rfl, q0, q1⟩ := hrel
        have q2 := db_small (y := q) (d := d) (by omega) q1
        have C2 := fun W => dbI_any (q + 1) (by omega) (by omega) W
        have C3 := fun W => dbI_any q (by omega) (by omega) W
        have N1 := hid (db_next (y := q) q0)
        have r1 := db_range (y := q + 1) (by omega) (by omega)
        have r2 := db_range (y := q) (by omega) (by omega)
        clear e1 hst
        by_cases hgo : dbV (q + 1) ≤ d
        · generalize hz : dbV (q + 1) = z at *
          go_wp2_with fail
          refine (C2 _).mono ?_
          rintro e w1 ⟨rfl, rfl⟩
          go_wp2_with fail
          go_round
          case rel => exact ⟨q + 1, rfl, by omega, by rw [hz]; exact hgo⟩
          case measure => simp [intOf]; omega
        · have hlt := N1.out
          have hr := rest_one q
          have hr' : restV q 1 = dbV (q + 1) - dbV q := by rw [hr, hlt]; omega
          clear hr hlt N1
          generalize dbV (q + 1) = z at *
          generalize dbV q = z0 at *
          go_wp2_with fail
          refine (C2 _).mono ?_
          rintro e w1 ⟨rfl, rfl⟩
          go_wp2_with fail
          refine (C3 _).mono ?_
          rintro e w1 ⟨rfl, rfl⟩
          have hr2 : d - z0 < restV q 1 := by omega
          have HR := hid hr2
          clear hr' hr2 C2 C3
          go_wp2_with fail
          go_loop [4, 5] (fun r m => ∃ (u k : Int), r = .int .i64 u ∧ m = .int .i64 k ∧ 1 ≤ k ∧ k ≤ 12 ∧ 0 ≤ u ∧ u ≤ 1460970 ∧ Hid (u < restV q k)) (fun _ m => (13 - intOf m).toNat)
          case atStart => exact ⟨d - z0, 1, rfl, rfl, by omega, by omega, by omega, by omega, HR⟩
          case round =>
            obtain ⟨u, k, rfl, rfl, k0, k1, u0, u1, hu⟩ := hrel
            have C4 := fun W => mdI_any q k q0 q2 k0 k1 W
            have M := mdV_range q k
            have X := hid (rest_next q k0 k1)
            by_cases hge : mdV q k ≤ u
            · have hk : k ≤ 11 := by
                rcases Int.lt_or_le k 12 with h | h
                · omega
                · obtain rfl : k = 12 := by omega
                  have h1 := X.out
                  have h2 := hu.out
                  rw [show (12 : Int) + 1 = 13 by rfl, rest_end] at h1
                  omega
              have N := hid (show u - mdV q k < restV q (k + 1) by have h1 := X.out; have h2 := hu.out; omega)
              clear X hu
              generalize mdV q k = v at *
              go_wp2_with fail
              refine (C4 _).mono ?_
              rintro e w1 ⟨rfl, rfl⟩
              go_wp2_with fail
              refine (C4 _).mono ?_
              rintro e w1 ⟨rfl, rfl⟩
              go_wp2_with fail
              go_round
              case rel => exact ⟨u - v, k + 1, rfl, rfl, by omega, by omega, by omega, by omega, N⟩
              case measure => simp [intOf]; omega
            · clear X hu
              generalize mdV q k = v at *
              go_wp2_with fail
              refine (C4 _).mono ?_
              rintro e w1 ⟨rfl, rfl⟩
              go_wp2_with fail
              refine (padI_any q 4 (by omega) (by omega) (.inr rfl) _).mono ?_
              rintro e w1 ⟨t1, rfl, t1s, x1⟩
              have p1 : (⟨#[46]⟩ : ByteArray).size = 1 := rfl
              have L1 : t1.size + (⟨#[46]⟩ : ByteArray).size ≤ 9223372036854775807 := by omega
              have A1 := fun W => run_add_str (P := Try.prog) L1 W
              have z1 : (t1 ++ (⟨#[46]⟩ : ByteArray)).size = 5 := by rw [ByteArray.size_append]; omega
              clear L1 t1s
              generalize t1 ++ (⟨#[46]⟩ : ByteArray) = s1 at *
              go_wp2_with fail
              refine (padI_any k 2 (by omega) (by omega) (.inl rfl) _).mono ?_
              rintro e w2 ⟨t2, rfl, t2s, x2⟩
              have L2 : s1.size + t2.size ≤ 9223372036854775807 := by omega
              have A2 := fun W => run_add_str (P := Try.prog) L2 W
              have z2 : (s1 ++ t2).size = 7 := by rw [ByteArray.size_append]; omega
              clear L2 t2s z1 A1
              generalize s1 ++ t2 = s2 at *
              have L3 : s2.size + (⟨#[46]⟩ : ByteArray).size ≤ 9223372036854775807 := by omega
              have A3 := fun W => run_add_str (P := Try.prog) L3 W
              have z3 : (s2 ++ (⟨#[46]⟩ : ByteArray)).size = 8 := by rw [ByteArray.size_append]; omega
              clear L3 z2 p1
              generalize s2 ++ (⟨#[46]⟩ : ByteArray) = s3 at *
              go_wp2_with fail
              refine (padI_any (u + 1) 2 (by omega) (by omega) (.inl rfl) _).mono ?_
              rintro e w3 ⟨t3, rfl, t3s, x3⟩
              have L4 : s3.size + t3.size ≤ 9223372036854775807 := by omega
              have A4 := fun W => run_add_str (P := Try.prog) L4 W
              have z4 : (s3 ++ t3).size = 10 := by rw [ByteArray.size_append]; omega
              clear L4 t3s z3 A2 A3
              generalize s3 ++ t3 = s4 at *
              go_wp2_with fail
              go_ret
              exact ⟨_, rfl, dayT_yes R.out (by omega) (by omega), (x1.trans x2).trans x3⟩
end Go.Proofs.Ytlfjnaeepblhiaa
