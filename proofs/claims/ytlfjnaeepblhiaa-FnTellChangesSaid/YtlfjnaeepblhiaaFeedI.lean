/- The contracts of itemNumber, FeedValid and ItemWith, the program's. -/
import Derived.Test.YtlfjnaeepblhiaaFeed
namespace Go.Proofs.Ytlfjnaeepblhiaa
open Go.RowKit
set_option linter.unusedVariables false
set_option linter.unusedSimpArgs false
set_option maxHeartbeats 1000000 in
theorem numI_any (A : Option Addr) (n c : Nat) (xs : List Im) (key : ByteArray) (w : World) (h : Sl w A n c 4 (ims xs)) :
    Calls Try.prog 71 #[.slice A n c, .string key] w fun e w' => e = .returned (.int .i64 (numV xs key)) ∧ Ext.of w w' := by
  have hlx : xs.length = n := h.count imC_len (by omega)
  have hmx := h.max
  have hcx := h.cap
  unfold maxLen at hmx
  have HL := hid hlx
  clear hlx
  go_enter Try.func71, Try.ntmps71
  go_wp2
  go_loopw [9] (fun i wr => ∃ (k : Nat), k ≤ n ∧ i = .int .i64 k ∧ Ext.of w wr ∧ Hid (key ∉ keysOf (xs.take k))) (fun i _ => n - (intOf i).toNat)
  case atStart => exact ⟨0, Nat.zero_le _, rfl, Ext.of.refl _, by intro hm; simp at hm⟩
  case round =>
    obtain ⟨k, hk, rfl, hE, hto⟩ := hrel
    by_cases hlt : k < n
    · obtain ⟨ad, a, b, s, d, rfl, hab, c0, c1, c2, c3⟩ := (h.ext hE).im hlt
      have d0 : (wr.alloc (.cells #[.string a, .string b, .string s, .int .i64 d] 57)).cell? ⟨wr.heap.size, 0, none⟩ = some (.string a) := cell_of_row _ wr.heap.size 0 _ _ _ (alloc_new' rfl)
      have hE2 := hE.alloc (.cells #[.string a, .string b, .string s, .int .i64 d] 57)
      cases hq : (a.toList == key.toList) with
      | true =>
        have R := hid (num_found hab hto.out (by rw [bytes_eq] at hq; simpa using hq))
        clear hab hto
        go_wp2
        go_ret
        exact ⟨ret_i64 R.out.symm, hE2⟩
      | false =>
        have R := hid (keys_next hab hto.out (by rw [bytes_eq] at hq; simpa using hq))
        clear hab hto
        go_wp2
        go_roundw
        case rel => exact ⟨k + 1, by omega, by go_num, hE2, R⟩
        case measure => simp [intOf]; omega
    · have R := hid (num_none (xs := xs) (key := key) (by have := hto.out; rwa [List.take_of_length_le (by have := HL.out; omega)] at this))
      have t0 : decide ((k : Int) < (n : Int)) = false := by simp; omega
      clear hto
      go_wp2
      go_ret
      exact ⟨ret_i64 R.out.symm, hE⟩
set_option maxHeartbeats 2000000 in
theorem fdI_any (A : Option Addr) (n c : Nat) (xs : List Im) (w : World) (h : Sl w A n c 4 (ims xs)) (hok : imOk xs) :
    Calls Try.prog 33 #[.slice A n c] w fun e w' => e = .returned (.bool (fdV xs)) ∧ Ext.of w w' := by
  have hlx : xs.length = n := h.count imC_len (by omega)
  have hmx := h.max
  have hcx := h.cap
  unfold maxLen at hmx
  by_cases hn : n ≤ 8
  · go_enter Try.func33, Try.ntmps33
    go_wp2
    go_loopw [10] (fun i wr => ∃ (k : Nat), k ≤ n ∧ i = .int .i64 k ∧ Ext.of w wr ∧ Hid (fdTo xs k = true)) (fun i _ => n - (intOf i).toNat)
    case atStart => exact ⟨0, Nat.zero_le _, rfl, Ext.of.refl _, rfl⟩
    case round =>
      obtain ⟨k, hk, rfl, hE, hto⟩ := hrel
      by_cases hlt : k < n
      · obtain ⟨ad, a, b, s, d, rfl, hab, c0, c1, c2, c3⟩ := (h.ext hE).im hlt
        obtain ⟨va, vb, vs⟩ := hok _ (List.mem_of_getElem? hab)
        have hkc : k ≤ c := by omega
        have hc : (wr.alloc (.cells #[.string a, .string b, .string s, .int .i64 d] 57)).heap[wr.heap.size]? = some (.cells #[.string a, .string b, .string s, .int .i64 d] 57 (0, 0)) := alloc_new' rfl
        have hE2 := hE.alloc (.cells #[.string a, .string b, .string s, .int .i64 d] 57)
        have S := (h.ext hE2).items (Nat.le_of_lt hlt)
        have C1 := fun W => imVI_any a b s d W va vb vs
        have C2 := fun W (S : Sl W (some ad) k c 4 (ims (xs.take k))) => numI_any (some ad) k c (xs.take k) a W S
        have RN := num_neg (xs.take k) a
        clear va vb vs
        cases hv : imV a b s d with
        | false =>
          have R := hid (fd_no2 (xs := xs) (k := k) (by omega) (fdAt_no1 hab hv))
          rw [hv] at C1
          clear hab hto hv RN C2 S
          go_wp2_with fail
          generalize wr.alloc (.cells #[.string a, .string b, .string s, .int .i64 d] 57) = W at *
          have d0 := cell_of_row W wr.heap.size 0 _ _ _ hc
          have d1 := cell_of_row W wr.heap.size 1 _ _ _ hc
          have d2 := cell_of_row W wr.heap.size 2 _ _ _ hc
          have d3 := cell_of_row W wr.heap.size 3 _ _ _ hc
          have g0 := more_cell d0
          have g1 := more_cell d1
          have g2 := more_cell d2
          have g3 := more_cell d3
          clear c0 c1 c2 c3 hc d0 d1 d2 d3 hE
          refine wp_region_more (by kernel_rfl) (by kernel_rfl) ?_
          repeat (go_big_quiet_step (exact more_of (C1 _)))
          refine wpQuiet_nil ?_
          rintro _ ⟨z, rfl⟩
          go_wp2_with fail
          go_ret
          exact ⟨ret_bool R.out.symm, hE2.trans ⟨z, rfl⟩⟩
        | true =>
          rw [hv] at C1
          by_cases hr : numV (xs.take k) a < 0
          · have R := hid (show fdTo xs (k + 1) = true by rw [fdTo_succ, hto.out, fdAt_eq hab hv, hasI_not.2 (RN.1 hr)]; rfl)
            clear hab hto hv RN
            generalize numV (xs.take k) a = r at *
            have t0 : decide (0 ≤ r) = false := by simp; omega
            go_wp2_with fail
            generalize wr.alloc (.cells #[.string a, .string b, .string s, .int .i64 d] 57) = W at *
            have d0 := cell_of_row W wr.heap.size 0 _ _ _ hc
            have d1 := cell_of_row W wr.heap.size 1 _ _ _ hc
            have d2 := cell_of_row W wr.heap.size 2 _ _ _ hc
            have d3 := cell_of_row W wr.heap.size 3 _ _ _ hc
            have g0 := more_cell d0
            have g1 := more_cell d1
            have g2 := more_cell d2
            have g3 := more_cell d3
            clear c0 c1 c2 c3 hc d0 d1 d2 d3 hE
            refine wp_region_more (by kernel_rfl) (by kernel_rfl) ?_
            repeat (go_big_quiet_step (first | exact more_of (C1 _) | exact more_of (C2 _ (S.more _))))
            refine wpQuiet_nil ?_
            rintro _ ⟨z, rfl⟩
            go_wp2_with fail
            go_roundw
            case rel => exact ⟨k + 1, by omega, by go_num, hE2.trans ⟨z, rfl⟩, R⟩
            case measure => simp [intOf]; omega
          · have R := hid (fd_no2 (xs := xs) (k := k) (by omega) (by
              rw [fdAt_eq hab hv]
              cases hh : hasI (xs.take k) a with
              | true => rfl
              | false => exact absurd (RN.2 (hasI_not.1 hh)) hr))
            clear hab hto hv RN
            generalize numV (xs.take k) a = r at *
            have t0 : decide (0 ≤ r) = true := by simp; omega
            go_wp2_with fail
            generalize wr.alloc (.cells #[.string a, .string b, .string s, .int .i64 d] 57) = W at *
            have d0 := cell_of_row W wr.heap.size 0 _ _ _ hc
            have d1 := cell_of_row W wr.heap.size 1 _ _ _ hc
            have d2 := cell_of_row W wr.heap.size 2 _ _ _ hc
            have d3 := cell_of_row W wr.heap.size 3 _ _ _ hc
            have g0 := more_cell d0
            have g1 := more_cell d1
            have g2 := more_cell d2
            have g3 := more_cell d3
            clear c0 c1 c2 c3 hc d0 d1 d2 d3 hE
            refine wp_region_more (by kernel_rfl) (by kernel_rfl) ?_
            repeat (go_big_quiet_step (first | exact more_of (C1 _) | exact more_of (C2 _ (S.more _))))
            refine wpQuiet_nil ?_
            rintro _ ⟨z, rfl⟩
            go_wp2_with fail
            go_ret
            exact ⟨ret_bool R.out.symm, hE2.trans ⟨z, rfl⟩⟩
      · obtain rfl : k = n := by omega
        have R := hid (fd_yes (xs := xs) (by omega) (by rw [hlx]; exact hto.out))
        clear hto
        go_wp2
        go_ret
        exact ⟨ret_bool R.out.symm, hE⟩
  · have R := hid (fd_no1 (xs := xs) (by omega))
    go_enter Try.func33, Try.ntmps33
    go_wp2
    go_ret
    exact ⟨ret_bool R.out.symm, Ext.of.refl _⟩
/-- Four stores into a block of four cells. -/
theorem row4i {w : World} {r : Nat} {x y z u a b c d : Value} {T : TypeId} (hz : w.heap[r]? = some (.cells #[x, y, z, u] T (0, 0))) :
    ((((w.setCell ⟨r, 0, none⟩ a).setCell ⟨r, 1, none⟩ b).setCell ⟨r, 2, none⟩ c).setCell ⟨r, 3, none⟩ d).heap[r]? = some (.cells #[a, b, c, d] T (0, 0)) := by
  have h1 : (w.setCell ⟨r, 0, none⟩ a).heap[r]? = some (.cells #[a, y, z, u] T (0, 0)) := by simpa using heap_setCell_same w r 0 _ T a hz
  have h2 := heap_setCell_same _ r 1 _ T b h1
  have h3 := heap_setCell_same _ r 2 _ T c h2
  have h4 := heap_setCell_same _ r 3 _ T d h3
  exact h4
theorem below4i {w v : World} {B r : Nat} {a b c d : Value} (h : Below B w v) (hr : B ≤ r) : Below B w ((((v.setCell ⟨r, 0, none⟩ a).setCell ⟨r, 1, none⟩ b).setCell ⟨r, 2, none⟩ c).setCell ⟨r, 3, none⟩ d) :=
  (((h.setCell (p := ⟨r, 0, none⟩) hr _).setCell (p := ⟨r, 1, none⟩) hr _).setCell (p := ⟨r, 2, none⟩) hr _).setCell (p := ⟨r, 3, none⟩) hr _
set_option maxHeartbeats 2000000 in
theorem iwI_any (A : Option Addr) (n c : Nat) (xs : List Im) (key : ByteArray) (w : World) (h : Sl w A n c 4 (ims xs)) (hok : imOk xs) :
    Calls Try.prog 34 #[.slice A n c, .string key] w fun e w' => ImRes (iwV xs key) e ∧ Ext.of w w' := by
  have hlx : xs.length = n := h.count imC_len (by omega)
  have C1 := fun W (S : Sl W A n c 4 (ims xs)) => fdI_any A n c xs W S hok
  have C2 := fun W (S : Sl W A n c 4 (ims xs)) => numI_any A n c xs key W S
  have hr : (w.alloc (.cells #[.string ⟨#[]⟩, .string ⟨#[]⟩, .string ⟨#[]⟩, .int .i64 0] 57)).heap[w.heap.size]? = some (.cells #[.string ⟨#[]⟩, .string ⟨#[]⟩, .string ⟨#[]⟩, .int .i64 0] 57 (0, 0)) := alloc_new' rfl
  have hE := (Ext.of.refl w).alloc (.cells #[.string ⟨#[]⟩, .string ⟨#[]⟩, .string ⟨#[]⟩, .int .i64 0] 57)
  have HL := hid hlx
  clear hok hlx
  go_enter Try.func34, Try.ntmps34
  go_wp2_with fail
  refine (C1 _ (h.ext hE)).mono ?_
  rintro e w1 ⟨rfl, x1⟩
  have hE := hE.trans x1
  replace hr := (x1.block (Array.getElem?_eq_some_iff.1 hr).1).trans hr
  have f0 := frozen_of_row _ w.heap.size 0 _ _ hr
  have f1 := frozen_of_row _ w.heap.size 1 _ _ hr
  have f2 := frozen_of_row _ w.heap.size 2 _ _ hr
  have f3 := frozen_of_row _ w.heap.size 3 _ _ hr
  have y0 := cell_of_row _ w.heap.size 0 _ _ _ hr
  have y1 := cell_of_row _ w.heap.size 1 _ _ _ hr
  have y2 := cell_of_row _ w.heap.size 2 _ _ _ hr
  have y3 := cell_of_row _ w.heap.size 3 _ _ _ hr
  clear x1 C1
  cases hv : fdV xs with
  | false =>
    have R := hid (iw_no1 (key := key) hv)
    clear hv
    have ks := row4i (a := .string ⟨#[]⟩) (b := .string ⟨#[]⟩) (c := .string ⟨#[]⟩) (d := .int .i64 0) hr
    have u0 := cell_of_row _ w.heap.size 0 _ _ _ ks
    have u1 := cell_of_row _ w.heap.size 1 _ _ _ ks
    have u2 := cell_of_row _ w.heap.size 2 _ _ _ ks
    have u3 := cell_of_row _ w.heap.size 3 _ _ _ ks
    clear ks
    go_wp2_with fail
    exact bodyPost_ret (v := .tuple #[.agg #[.string ⟨#[]⟩, .string ⟨#[]⟩, .string ⟨#[]⟩, .int .i64 0], .bool false]) (by simp [results, Try.results34, go_sem, u0, u1, u2, u3]) rfl ⟨by unfold ImRes; rw [R.out], Ext.of_below (below4i hE.below (Nat.le_refl _))⟩
  | true =>
    go_wp2_with fail
    refine (C2 _ (h.ext hE)).mono ?_
    rintro e w2 ⟨rfl, x2⟩
    have hE := hE.trans x2
    replace hr := (x2.block (Array.getElem?_eq_some_iff.1 hr).1).trans hr
    clear f0 f1 f2 f3 y0 y1 y2 y3 x2 C2
    have f0 := frozen_of_row _ w.heap.size 0 _ _ hr
    have f1 := frozen_of_row _ w.heap.size 1 _ _ hr
    have f2 := frozen_of_row _ w.heap.size 2 _ _ hr
    have f3 := frozen_of_row _ w.heap.size 3 _ _ hr
    have y0 := cell_of_row _ w.heap.size 0 _ _ _ hr
    have y1 := cell_of_row _ w.heap.size 1 _ _ _ hr
    have y2 := cell_of_row _ w.heap.size 2 _ _ _ hr
    have y3 := cell_of_row _ w.heap.size 3 _ _ _ hr
    by_cases hneg : numV xs key < 0
    · have R := hid (iw_no2 (xs := xs) (key := key) hneg)
      clear hv
      generalize numV xs key = r at *
      have ks := row4i (a := .string ⟨#[]⟩) (b := .string ⟨#[]⟩) (c := .string ⟨#[]⟩) (d := .int .i64 0) hr
      have u0 := cell_of_row _ w.heap.size 0 _ _ _ ks
      have u1 := cell_of_row _ w.heap.size 1 _ _ _ ks
      have u2 := cell_of_row _ w.heap.size 2 _ _ _ ks
      have u3 := cell_of_row _ w.heap.size 3 _ _ _ ks
      clear ks
      go_wp2_with fail
      exact bodyPost_ret (v := .tuple #[.agg #[.string ⟨#[]⟩, .string ⟨#[]⟩, .string ⟨#[]⟩, .int .i64 0], .bool false]) (by simp [results, Try.results34, go_sem, u0, u1, u2, u3]) rfl ⟨by unfold ImRes; rw [R.out], Ext.of_below (below4i hE.below (Nat.le_refl _))⟩
    · obtain ⟨k, hk⟩ := Int.eq_ofNat_of_zero_le (Int.not_lt.1 hneg)
      have hlt : k < n := by have := (num_lt xs key).2; have := HL.out; omega
      obtain ⟨ad, a, b, s, d, rfl, hab, c0, c1, c2, c3⟩ := (h.ext hE).im hlt
      have R := hid (iw_yes hv hk hab)
      clear hv hab
      rw [hk]
      clear hk hneg
      have ks := row4i (a := .string a) (b := .string b) (c := .string s) (d := .int .i64 d) hr
      have u0 := cell_of_row _ w.heap.size 0 _ _ _ ks
      have u1 := cell_of_row _ w.heap.size 1 _ _ _ ks
      have u2 := cell_of_row _ w.heap.size 2 _ _ _ ks
      have u3 := cell_of_row _ w.heap.size 3 _ _ _ ks
      clear ks
      go_wp2_with fail
      exact bodyPost_ret (v := .tuple #[.agg #[.string a, .string b, .string s, .int .i64 d], .bool true]) (by simp [results, Try.results34, go_sem, u0, u1, u2, u3]) rfl ⟨by unfold ImRes; rw [R.out], Ext.of_below (below4i hE.below (Nat.le_refl _))⟩
end Go.Proofs.Ytlfjnaeepblhiaa
