/- The contracts of FeedValid and ItemWith, the reference's. -/
import Derived.Test.YtlfjnaeepblhiaaFeedI
namespace Go.Proofs.Ytlfjnaeepblhiaa
open Go.RowKit
set_option linter.unusedVariables false
set_option linter.unusedSimpArgs false
set_option maxHeartbeats 4000000 in
theorem fdS_any (A : Option Addr) (n c : Nat) (xs : List Im) (w : World) (h : Sl w A n c 4 (ims xs)) (hok : imOk xs) :
    Calls Try.prog 66 #[.slice A n c] w fun e w' => e = .returned (.bool (fdV xs)) ∧ Ext.of w w' := by
  have hl : xs.length = n := h.count imC_len (by omega)
  have HL := hid hl
  have HOK := hid hok
  have hmx := h.max
  have hcx := h.cap
  unfold maxLen at hmx
  clear hok hl
  go_enter Try.func66, Try.ntmps66
  go_wp2_with fail
  go_loopg [3] n (fun g i wr => ∃ (k : Nat) (z : Ext), k ≤ n ∧ Hid (g = n - k) ∧ i = .int .i64 k ∧ wr = More w z ∧ Hid (fdTo xs k = true))
  case atStart => exact ⟨0, _, Nat.zero_le _, (by show n = n - 0; omega), rfl, more_refl w, rfl⟩
  case round =>
    obtain ⟨k, z, hk, hg, rfl, rfl, hto⟩ := hrel
    by_cases hlt : k < n
    · have sz := h.more z
      obtain ⟨ad, a, b, s, d, rfl, hab, c0, c1, c2, c3⟩ := sz.im hlt
      obtain ⟨va, vb, vs⟩ := HOK.out _ (List.mem_of_getElem? hab)
      have C1 := fun W => imVS_any a b s d W va vb vs
      clear va vb vs
      cases ht : imV a b s d with
      | false =>
        have R := hid (fd_no2 (xs := xs) (k := k) (by rw [HL.out]; exact hlt) (fdAt_no1 hab ht))
        rw [ht] at C1
        clear hab hto ht
        go_wp2_with fail
        refine (C1 _).mono ?_
        rintro e w2 ⟨rfl, x2⟩
        go_wp2_with fail
        go_ret
        exact ⟨ret_bool R.out.symm, Ext.of.trans ⟨z, rfl⟩ x2⟩
      | true =>
        have hs := hid (fdAt_eq hab ht)
        have HX := hid hab
        rw [ht] at C1
        clear hab ht
        go_wp2_with fail
        refine (C1 _).mono ?_
        rintro e w2 ⟨rfl, x2⟩
        have hE2 : Ext.of w w2 := Ext.of.trans ⟨z, rfl⟩ x2
        have sz := sz.ext x2
        have c0 := x2.cell c0
        clear x2 C1 c1 c2 c3
        go_wp2_with fail
        go_loopg [4] k (fun g2 i wr => ∃ (j : Nat) (z2 : Ext), j ≤ k ∧ Hid (g2 = k - j) ∧ i = .int .i64 j ∧ wr = More w2 z2 ∧ Hid (a ∉ keysOf (xs.take j)))
        case atStart => exact ⟨0, _, Nat.zero_le _, (by show k = k - 0; omega), rfl, more_refl _, (by show a ∉ keysOf (xs.take 0); simp)⟩
        case round =>
          obtain ⟨j, z2, hj, hg2, rfl, rfl, hno⟩ := hrel
          by_cases hjk : j < k
          · obtain ⟨ad', a', b', s', d', hA, hy, p0, p1, p2, p3⟩ := sz.im (j := j) (by omega)
            injection hA with hA
            subst hA
            have g0 := more_cell2 c0 z2
            have g1 := more_cell2 p0 z2
            cases he : (a'.toList == a.toList) with
            | true =>
              have R := hid (fd_no2 (xs := xs) (k := k) (by rw [HL.out]; exact hlt) (by
                rw [hs.out, hasI_iff.2]
                · rfl
                · refine List.mem_map.2 ⟨_, List.mem_of_getElem? (i := j) (by rw [List.getElem?_take, if_pos hjk]; exact hy), ?_⟩
                  rw [bytes_eq] at he; simpa using he))
              clear hy hno hto c0 p0 p1 p2 p3
              go_wp2_with fail
              refine wp_region_more (by kernel_rfl) (by kernel_rfl) ?_
              repeat (go_big_quiet_step (fail))
              refine wpQuiet_nil ?_
              rintro _ ⟨z4, rfl⟩
              go_wp2_with fail
              go_ret
              exact ⟨ret_bool R.out.symm, (hE2.trans ⟨z2, rfl⟩).trans ⟨z4, rfl⟩⟩
            | false =>
              have N := hid (keys_next hy hno.out (by rw [bytes_eq] at he; simpa using he))
              clear hy hno hto c0 p0 p1 p2 p3
              go_wp2_with fail
              refine wp_region_more (by kernel_rfl) (by kernel_rfl) ?_
              repeat (go_big_quiet_step (fail))
              refine wpQuiet_nil ?_
              rintro _ ⟨z4, rfl⟩
              go_wp2_with fail
              go_roundg (k - (j + 1))
              case measure => have := hg2.out; omega
              case rel => exact ⟨j + 1, _, by omega, rfl, by go_num, more_more _ _ _, N⟩
          · obtain rfl : j = k := by omega
            have R := hid (show fdTo xs (j + 1) = true by rw [fdTo_succ, hto.out, hs.out, hasI_not.2 hno.out]; rfl)
            have t0 : decide ((j : Int) < (j : Int)) = false := by simp
            obtain ⟨z5, hz5⟩ := hE2.trans ⟨z2, rfl⟩
            clear hno hto c0
            go_wp2_with fail
            go_roundg (n - (j + 1))
            case measure => have := hg.out; omega
            case rel => exact ⟨j + 1, z5, by omega, rfl, by go_num, rfl, R⟩
    · obtain rfl : k = n := by omega
      have R := hid (fd_end (xs := xs) (by rw [HL.out]; exact hto.out))
      rw [HL.out] at R
      have t0 : decide ((k : Int) < (k : Int)) = false := by simp
      have t1 : decide ((k : Int) ≤ 8) = decide (k ≤ 8) := by congr 1; simp only [eq_iff_iff]; omega
      clear hto
      go_wp2_with fail
      go_ret
      exact ⟨ret_bool R.out.symm, ⟨z, rfl⟩⟩
set_option maxHeartbeats 4000000 in
theorem iwS_any (A : Option Addr) (n c : Nat) (xs : List Im) (key : ByteArray) (w : World) (h : Sl w A n c 4 (ims xs)) (hok : imOk xs) :
    Calls Try.prog 85 #[.slice A n c, .string key] w fun e w' => ImRes (iwV xs key) e ∧ Ext.of w w' := by
  have hlx : xs.length = n := h.count imC_len (by omega)
  have hmx := h.max
  have hcx := h.cap
  unfold maxLen at hmx
  have C1 := fun W (S : Sl W A n c 4 (ims xs)) => fdS_any A n c xs W S hok
  have hr : (w.alloc (.cells #[.string ⟨#[]⟩, .string ⟨#[]⟩, .string ⟨#[]⟩, .int .i64 0] 57)).heap[w.heap.size]? = some (.cells #[.string ⟨#[]⟩, .string ⟨#[]⟩, .string ⟨#[]⟩, .int .i64 0] 57 (0, 0)) := alloc_new' rfl
  have hE := (Ext.of.refl w).alloc (.cells #[.string ⟨#[]⟩, .string ⟨#[]⟩, .string ⟨#[]⟩, .int .i64 0] 57)
  have HL := hid hlx
  clear hok hlx
  go_enter Try.func85, Try.ntmps85
  go_wp2_with fail
  go_loopw [6] (fun i wr => ∃ (k : Nat), k ≤ n ∧ i = .int .i64 k ∧ Ext.of w wr ∧ wr.heap[w.heap.size]? = some (.cells #[.string ⟨#[]⟩, .string ⟨#[]⟩, .string ⟨#[]⟩, .int .i64 0] 57 (0, 0)) ∧ Hid (key ∉ keysOf (xs.take k))) (fun i _ => n - (intOf i).toNat)
  case atStart => exact ⟨0, Nat.zero_le _, rfl, hE, hr, by intro hm; simp at hm⟩
  case round =>
    clear hE hr
    obtain ⟨k, hk, rfl, hE, hr, hto⟩ := hrel
    by_cases hlt : k < n
    · cases hv : fdV xs with
      | false =>
        have R := hid (iw_no1 (key := key) hv)
        rw [hv] at C1
        clear hv hto
        go_wp2_with fail
        refine (C1 _ (h.ext hE)).mono ?_
        rintro e w1 ⟨rfl, x1⟩
        have hE := hE.trans x1
        replace hr := (x1.block (Array.getElem?_eq_some_iff.1 hr).1).trans hr
        clear x1 C1
        have f0 := frozen_of_row _ w.heap.size 0 _ _ hr
        have f1 := frozen_of_row _ w.heap.size 1 _ _ hr
        have f2 := frozen_of_row _ w.heap.size 2 _ _ hr
        have f3 := frozen_of_row _ w.heap.size 3 _ _ hr
        have y0 := cell_of_row _ w.heap.size 0 _ _ _ hr
        have y1 := cell_of_row _ w.heap.size 1 _ _ _ hr
        have y2 := cell_of_row _ w.heap.size 2 _ _ _ hr
        have y3 := cell_of_row _ w.heap.size 3 _ _ _ hr
        have ks := row4i (a := .string ⟨#[]⟩) (b := .string ⟨#[]⟩) (c := .string ⟨#[]⟩) (d := .int .i64 0) hr
        have u0 := cell_of_row _ w.heap.size 0 _ _ _ ks
        have u1 := cell_of_row _ w.heap.size 1 _ _ _ ks
        have u2 := cell_of_row _ w.heap.size 2 _ _ _ ks
        have u3 := cell_of_row _ w.heap.size 3 _ _ _ ks
        clear ks
        go_wp2_with fail
        exact bodyPost_ret (v := .tuple #[.agg #[.string ⟨#[]⟩, .string ⟨#[]⟩, .string ⟨#[]⟩, .int .i64 0], .bool false]) (by simp [results, Try.results85, go_sem, u0, u1, u2, u3]) rfl ⟨by unfold ImRes; rw [R.out], Ext.of_below (below4i hE.below (Nat.le_refl _))⟩
      | true =>
        have HV := hid hv
        rw [hv] at C1
        clear hv
        go_wp2_with fail
        refine (C1 _ (h.ext hE)).mono ?_
        rintro e w1 ⟨rfl, x1⟩
        have hE := hE.trans x1
        replace hr := (x1.block (Array.getElem?_eq_some_iff.1 hr).1).trans hr
        clear x1 C1
        obtain ⟨ad, a, b, s, d, rfl, hab, c0, c1, c2, c3⟩ := (h.ext hE).im hlt
        cases hq : (a.toList == key.toList) with
        | true =>
          have R := hid (iw_yes HV.out (num_found hab hto.out (by rw [bytes_eq] at hq; simpa using hq)) hab)
          clear hab hto
          have f0 := frozen_of_row _ w.heap.size 0 _ _ hr
          have f1 := frozen_of_row _ w.heap.size 1 _ _ hr
          have f2 := frozen_of_row _ w.heap.size 2 _ _ hr
          have f3 := frozen_of_row _ w.heap.size 3 _ _ hr
          have y0 := cell_of_row _ w.heap.size 0 _ _ _ hr
          have y1 := cell_of_row _ w.heap.size 1 _ _ _ hr
          have y2 := cell_of_row _ w.heap.size 2 _ _ _ hr
          have y3 := cell_of_row _ w.heap.size 3 _ _ _ hr
          have ks := row4i (a := .string a) (b := .string b) (c := .string s) (d := .int .i64 d) hr
          have u0 := cell_of_row _ w.heap.size 0 _ _ _ ks
          have u1 := cell_of_row _ w.heap.size 1 _ _ _ ks
          have u2 := cell_of_row _ w.heap.size 2 _ _ _ ks
          have u3 := cell_of_row _ w.heap.size 3 _ _ _ ks
          clear ks
          go_wp2_with fail
          exact bodyPost_ret (v := .tuple #[.agg #[.string a, .string b, .string s, .int .i64 d], .bool true]) (by simp [results, Try.results85, go_sem, u0, u1, u2, u3]) rfl ⟨by unfold ImRes; rw [R.out], Ext.of_below (below4i hE.below (Nat.le_refl _))⟩
        | false =>
          have R := hid (keys_next hab hto.out (by rw [bytes_eq] at hq; simpa using hq))
          clear hab hto
          go_wp2_with fail
          go_roundw
          case rel => exact ⟨k + 1, by omega, by go_num, hE, hr, R⟩
          case measure => simp [intOf]; omega
    · have R := hid (iw_no2 (xs := xs) (key := key) (by rw [num_neg]; have := hto.out; rwa [List.take_of_length_le (by have := HL.out; omega)] at this))
      have t0 : decide ((k : Int) < (n : Int)) = false := by simp; omega
      clear hto C1
      have f0 := frozen_of_row _ w.heap.size 0 _ _ hr
      have f1 := frozen_of_row _ w.heap.size 1 _ _ hr
      have f2 := frozen_of_row _ w.heap.size 2 _ _ hr
      have f3 := frozen_of_row _ w.heap.size 3 _ _ hr
      have y0 := cell_of_row _ w.heap.size 0 _ _ _ hr
      have y1 := cell_of_row _ w.heap.size 1 _ _ _ hr
      have y2 := cell_of_row _ w.heap.size 2 _ _ _ hr
      have y3 := cell_of_row _ w.heap.size 3 _ _ _ hr
      have ks := row4i (a := .string ⟨#[]⟩) (b := .string ⟨#[]⟩) (c := .string ⟨#[]⟩) (d := .int .i64 0) hr
      have u0 := cell_of_row _ w.heap.size 0 _ _ _ ks
      have u1 := cell_of_row _ w.heap.size 1 _ _ _ ks
      have u2 := cell_of_row _ w.heap.size 2 _ _ _ ks
      have u3 := cell_of_row _ w.heap.size 3 _ _ _ ks
      clear ks
      go_wp2_with fail
      exact bodyPost_ret (v := .tuple #[.agg #[.string ⟨#[]⟩, .string ⟨#[]⟩, .string ⟨#[]⟩, .int .i64 0], .bool false]) (by simp [results, Try.results85, go_sem, u0, u1, u2, u3]) rfl ⟨by unfold ImRes; rw [R.out], Ext.of_below (below4i hE.below (Nat.le_refl _))⟩
end Go.Proofs.Ytlfjnaeepblhiaa
