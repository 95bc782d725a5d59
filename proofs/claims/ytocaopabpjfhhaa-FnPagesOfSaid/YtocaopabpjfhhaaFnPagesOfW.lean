/- The walk of FnPagesOf: it returns true and turns nothing that was there. -/
import Derived.Test.YtocaopabpjfhhaaPagesOf
import Derived.Test.YtocaopabpjfhhaaDrawPage
namespace Go.Proofs.Ytocaopabpjfhhaa.fnPagesOf
open Go.RowKit
set_option linter.unusedVariables false

/-- One after the other the pages are the list. -/
theorem pgF_all {xs : List Int} {m : Int} : ∀ (g : Nat) {f : Int}, pageOk xs.length f m → (xs.length : Int) < f + g → (pgF xs m g f).flatten = xs.drop f.toNat
  | 0, f, b, h => by have := b.2.2.2; omega
  | g + 1, f, b, h => by
    rw [pgF_yes b, List.flatten_cons, pageL_yes b, pageN_yes b]
    obtain ⟨b0, b1, b2, b3⟩ := b
    obtain ⟨k, rfl⟩ := Int.eq_ofNat_of_zero_le b1.1
    obtain ⟨j, rfl⟩ := Int.eq_ofNat_of_zero_le (show 0 ≤ m by omega)
    by_cases hlt : (k : Int) + j < xs.length
    · rw [if_pos hlt, pgF_all g (f := (k : Int) + j) ⟨b0, ⟨by omega, by omega⟩, b2, hlt⟩ (by push_cast at h; omega)]
      rw [show ((k : Int) + (j : Int)).toNat = k + j by omega, Int.toNat_natCast, Int.toNat_natCast, ← List.drop_drop, List.take_append_drop]
    · rw [if_neg hlt, pgF_no (fun h => by have := h.2.1.1; omega)]
      rw [List.flatten_nil, List.append_nil, Int.toNat_natCast, Int.toNat_natCast, List.take_of_length_le (by simp; omega)]
/-- All pages but the last one are full. -/
theorem pgF_full {xs : List Int} {m : Int} : ∀ (g : Nat) {f : Int} (k : Nat) {p : List Int}, k + 1 < (pgF xs m g f).length → (pgF xs m g f)[k]? = some p → (p.length : Int) = m
  | 0, f, k, p, h, _ => by simp [pgF] at h
  | g + 1, f, k, p, h, hp => by
    by_cases b : pageOk xs.length f m
    · rw [pgF_yes b] at h hp
      cases k with
      | succ k =>
        rw [List.getElem?_cons_succ] at hp
        exact pgF_full g k (by simpa using h) hp
      | zero =>
        simp at hp
        subst hp
        have hne : pageOk xs.length (pageN xs.length f m) m := by
          apply Classical.byContradiction
          intro hn
          rw [pgF_no hn] at h
          simp at h
        have h0 := hne.2.1.1
        rw [pageN_yes b] at h0
        rw [pageL_yes b]
        obtain ⟨b0, b1, b2, b3⟩ := b
        split at h0
        · simp; omega
        · omega
    · rw [pgF_no b] at h; simp at h
theorem pagesL_all {xs : List Int} {m : Int} (h : (pagesL xs m).length ≠ 0) : (pagesL xs m).flatten = xs := by
  by_cases b : pageOk xs.length 0 m
  · have := pgF_all 41 b (by have := b.1; omega)
    unfold pagesL
    simpa using this
  · rw [pagesL_no b] at h; simp at h
theorem pagesL_len (xs : List Int) (m : Int) : (pagesL xs m).flatten.length ≤ xs.length := by
  by_cases b : pageOk xs.length 0 m
  · have := pgF_all 41 b (by have := b.1; omega)
    unfold pagesL
    rw [this]; simp
  · rw [pagesL_no b]; simp
theorem flatten_take_next {ls : List (List Int)} {k : Nat} {p : List Int} (h : ls[k]? = some p) : (ls.take (k + 1)).flatten = (ls.take k).flatten ++ p := by
  rw [List.take_add_one, h]; simp
theorem flatten_take_le (ls : List (List Int)) (k : Nat) : (ls.take k).flatten.length ≤ ls.flatten.length := by
  conv => rhs; rw [← List.take_append_drop k ls]
  rw [List.flatten_append, List.length_append]; omega

set_option maxHeartbeats 2000000 in
theorem walk (a0 : Option Addr) (len0 cap0 : Nat) (z0 : List Int) (w : World) (w0 : Row .u8 w a0 len0 cap0 z0) :
    Calls Try.prog 14 #[.slice a0 len0 cap0] w fun e w' => e = .returned (.bool true) ∧ Below w.heap.size w w' := by
  have hmax := w0.sl.max
  have hcap := w0.sl.cap
  unfold maxLen at hmax
  by_cases hn : 1048576 < len0
  · go_enter Try.func14, Try.ntmps14
    go_wp2
    go_ret
    exact ⟨rfl, Below.refl _ _⟩
  · go_enter Try.func14, Try.ntmps14
    go_wp2_with fail
    refine (drawPages_any _ _ _ _ _ w0).mono ?_
    rintro e w1 ⟨B1, k1, d1, m, xs, rfl, o1, hk1, m0, m1, T1⟩
    have o1 := own_lower o1 (Nat.le_refl _)
    have hxl := hid (show xs.length = k1 by have := o1.1; simpa [ints] using this)
    clear w0 hmax hcap hn
    go_wp2_with fail
    refine (pagesI_any _ _ _ xs m _ (own_sl o1)).mono ?_
    rintro e w2 ⟨B2, k2, d2, rfl, hk2, b2, ps, P2, e2⟩
    have E2 := hid e2
    have T2 := below_next T1 b2
    have o1 := own_below o1 b2
    have P2 := P2.lower T1.size
    clear b2 T1 e2
    go_wp2_with fail
    refine (pagesS_any _ _ _ xs m _ (own_sl o1)).mono ?_
    rintro e w3 ⟨B3, k3, d3, rfl, hk3, b3, qs, P3, e3⟩
    have E3 := hid (show pxs qs = pxs ps by rw [e3, E2.out])
    have T3 := below_next T2 b3
    have o1 := own_below o1 b3
    have P2 := P2.below b3
    have P3 := P3.lower T2.size
    have hkk : k3 = k2 := by rw [← P3.len, ← P2.len]; have := congrArg List.length E3.out; simpa using this
    subst hkk
    clear b3 T2 e3
    have HL := hid P2.len
    obtain ⟨hc2, hm2⟩ := P2.caps
    obtain ⟨hc3, hm3⟩ := P3.caps
    unfold maxLen at hm2 hm3
    have X2 := hid (fun j (hj : w3.heap.size ≤ j) => P2.off_ge (k := j) hj)
    have X3 := hid (fun j (hj : w3.heap.size ≤ j) => P3.off_ge (k := j) hj)
    have X1 := hid (fun j (hj : w3.heap.size ≤ j) => show (Value.slice B1 k1 d1).ownBlock ≠ some j from fun e => by have := (o1.lt j e).2; omega)
    have HS := hid (show w.heap.size ≤ w3.heap.size from T3.size)
    have HN := hid (show ∀ (i : Nat) (p : Pg), ps[i]? = some p → p.xs.length = p.n from fun i p h => by have := (P2.inner i p h).1; simpa [ints] using this)
    have HP2 := hid P2.small
    have O0 := hid (own_empty w3 3 1)
    have O1 := hid (o1.alloc (.cells #[] 3))
    have P2 := hid (P2.alloc (.cells #[] 3))
    have P3 := hid (P3.alloc (.cells #[] 3))
    have T4 := hid (T3.alloc T3.size (.cells #[] 3))
    clear o1 T3
    go_wp2_with fail
    go_loopw [7, 8] (fun v i wr => ∃ (k n c : Nat) (B : Option Addr), k ≤ k3 ∧ i = .int .i64 k ∧ v = .slice B n c ∧ n ≤ 41 ∧ Hid (wr.ownsRow w3.heap.size 3 1 (.slice B n c) n (ints ((pxs ps).take k).flatten)) ∧ Hid (Pages wr w.heap.size (.slice B2 k3 d2) ps) ∧ Hid (Pages wr w.heap.size (.slice B3 k3 d3) qs) ∧ Hid (wr.ownsRow w.heap.size 3 1 (.slice B1 k1 d1) k1 (ints xs)) ∧ Hid (Below w.heap.size w wr) ∧ Hid (w3.heap.size ≤ wr.heap.size)) (fun _ i _ => k3 - (intOf i).toNat)
    case atStart => exact ⟨0, 0, 0, _, Nat.zero_le _, rfl, rfl, by omega, O0, P2, P3, O1, T4, (by show w3.heap.size ≤ _; simp)⟩
    case round =>
      obtain ⟨k, n, c, B, hk, rfl, rfl, hn, HO, HP, HQ, HX, HB, HZ⟩ := hrel
      clear O0 P2 P3 O1 T4
      by_cases hlt : k < k3
      · obtain ⟨ad, p, rfl, hp, c0⟩ := HP.out.at hlt
        obtain ⟨ae, q, rfl, hq, d0⟩ := HQ.out.at hlt
        have gp : (pxs ps)[k]? = some p.xs := by simp [pxs, hp]
        have hpq : p.xs = q.xs := by
          have h2 : (pxs qs)[k]? = some q.xs := by simp [pxs, hq]
          rw [E3.out, gp] at h2
          injection h2
        have hpn := HN.out k p hp
        have hps := HP2.out k p hp
        have hS := hid (HP.out.sl hp)
        have C := fun z => sameInts_any p.A q.A p.n p.c q.n q.c p.xs q.xs (More wr z) ((HP.out.sl hp).more z) ((HQ.out.sl hq).more z)
        have ht : decide (p.xs = q.xs) = true := decide_eq_true hpq
        rw [ht] at C
        have C := fun z => (C z).mono fun _ _ ⟨he, k, hw⟩ => (⟨he, hw ▸ (Ext.of.refl _).drewN k⟩ : _ ∧ Ext.of _ _)
        have e0 := more_cell c0
        have f0 := more_cell d0
        have hfl := hid (flatten_take_next gp)
        have hle := hid (show ((pxs ps).take (k + 1)).flatten.length ≤ 41 by
          have h1 := flatten_take_le (pxs ps) (k + 1)
          have h2 := pagesL_len xs m
          rw [← E2.out] at h2
          have h3 := hxl.out
          omega)
        have hfull := hid (show k + 1 < k3 → (p.xs.length : Int) = m from fun h => pgF_full (xs := xs) (m := m) (f := 0) 41 k (by have h1 := HL.out; have h2 : (pxs ps).length = (pgF xs m 41 0).length := congrArg List.length E2.out; rw [List.length_map] at h2; omega) (by have h2 := E2.out; unfold pagesL at h2; rw [← h2]; exact gp))
        have HPN := hid hpn
        clear gp hpq ht hp hq d0 hpn
        by_cases hnext : k + 1 < k3
        · have hm : ((p.n : Int) == m) = true := by have := hfull.out hnext; rw [HPN.out] at this; simpa using this
          have hnx : decide ((k : Int) + 1 < (k3 : Int)) = true := by simp; omega
          clear hfull
          go_wp2
          refine wp_region_more (by kernel_rfl) (by kernel_rfl) ?_
          repeat (go_big_quiet_step (exact more_of (C _)))
          refine wpQuiet_nil ?_
          rintro _ ⟨z, rfl⟩
          have hE : Ext.of wr (More wr z) := ⟨z, rfl⟩
          have S := hS.out.ext hE
          have e1 := e0 z
          have O := hid (own_ext HO.out hE)
          have OL := hid (fun j (h : (Value.slice B n c).ownBlock = some j) => (HO.out.lt j h).1)
          have P := hid (HP.out.ext hE)
          have Q := hid (HQ.out.ext hE)
          have X := hid (own_ext HX.out hE)
          have T := hid (below_next HB.out hE.below)
          have Z := hid (Nat.le_trans HZ.out hE.size)
          clear HO HP HQ HX HB HZ hE C e0 f0
          have hz := Z.out
          go_wp2_with (at_builtin; refine wpList_append_see _ rfl _ _ eltInt rfl w3.heap.size _ n (ints ((pxs ps).take k).flatten) rfl O.out _ _ _ (ints p.xs) rfl S.see (S.of_none (by decide)) S.len (ints_oneCell _ _) (by unfold maxLen; omega) (by omega) hz ?_; intro v4 w4 own4 g4 hat)
          have hl : n + p.n = ((pxs ps).take (k + 1)).flatten.length := by have h1 := own4.1; rw [List.length_append, List.length_map, List.length_map, Nat.mul_one] at h1; rw [hfl.out, List.length_append]; omega
          have hb := hle.out
          rw [← hl] at hb
          have e4 : ints ((pxs ps).take k).flatten ++ ints p.xs = ints ((pxs ps).take (k + 1)).flatten := by rw [hfl.out]; simp [ints]
          rw [e4] at own4
          have P4 := hid (P.out.kept g4 (fun j hj => X2.out j (OL.out j hj)))
          have Q4 := hid (Q.out.kept g4 (fun j hj => X3.out j (OL.out j hj)))
          have X4 := hid (X.out.kept g4 (by
            cases hv : (Value.slice B1 k1 d1).ownBlock with
            | none => exact .inl rfl
            | some j => exact .inr (fun e => X1.out j (OL.out j e.symm) hv)))
          have T4 := hid (T.out.grown g4 (Nat.le_trans HS.out Z.out) (fun j hj => Nat.le_trans HS.out (OL.out j hj)))
          have Z4 := hid (Nat.le_trans Z.out g4.size)
          obtain ⟨B4, d4, rfl, _⟩ := own_form own4
          have O4 := hid own4
          clear S e1 O OL P Q X T Z hz own4 g4 hat hl e4
          go_wp2
          go_roundw
          case rel => exact ⟨k + 1, n + p.n, d4, B4, by omega, by go_num, rfl, hb, O4, P4, Q4, X4, T4, Z4⟩
          case measure => simp [intOf]; omega
        · have hnx : decide ((k : Int) + 1 < (k3 : Int)) = false := by simp; omega
          clear hfull
          go_wp2
          refine wp_region_more (by kernel_rfl) (by kernel_rfl) ?_
          repeat (go_big_quiet_step (exact more_of (C _)))
          refine wpQuiet_nil ?_
          rintro _ ⟨z, rfl⟩
          have hE : Ext.of wr (More wr z) := ⟨z, rfl⟩
          have S := hS.out.ext hE
          have e1 := e0 z
          have O := hid (own_ext HO.out hE)
          have OL := hid (fun j (h : (Value.slice B n c).ownBlock = some j) => (HO.out.lt j h).1)
          have P := hid (HP.out.ext hE)
          have Q := hid (HQ.out.ext hE)
          have X := hid (own_ext HX.out hE)
          have T := hid (below_next HB.out hE.below)
          have Z := hid (Nat.le_trans HZ.out hE.size)
          clear HO HP HQ HX HB HZ hE C e0 f0
          have hz := Z.out
          go_wp2_with (at_builtin; refine wpList_append_see _ rfl _ _ eltInt rfl w3.heap.size _ n (ints ((pxs ps).take k).flatten) rfl O.out _ _ _ (ints p.xs) rfl S.see (S.of_none (by decide)) S.len (ints_oneCell _ _) (by unfold maxLen; omega) (by omega) hz ?_; intro v4 w4 own4 g4 hat)
          have hl : n + p.n = ((pxs ps).take (k + 1)).flatten.length := by have h1 := own4.1; rw [List.length_append, List.length_map, List.length_map, Nat.mul_one] at h1; rw [hfl.out, List.length_append]; omega
          have hb := hle.out
          rw [← hl] at hb
          have e4 : ints ((pxs ps).take k).flatten ++ ints p.xs = ints ((pxs ps).take (k + 1)).flatten := by rw [hfl.out]; simp [ints]
          rw [e4] at own4
          have P4 := hid (P.out.kept g4 (fun j hj => X2.out j (OL.out j hj)))
          have Q4 := hid (Q.out.kept g4 (fun j hj => X3.out j (OL.out j hj)))
          have X4 := hid (X.out.kept g4 (by
            cases hv : (Value.slice B1 k1 d1).ownBlock with
            | none => exact .inl rfl
            | some j => exact .inr (fun e => X1.out j (OL.out j e.symm) hv)))
          have T4 := hid (T.out.grown g4 (Nat.le_trans HS.out Z.out) (fun j hj => Nat.le_trans HS.out (OL.out j hj)))
          have Z4 := hid (Nat.le_trans Z.out g4.size)
          obtain ⟨B4, d4, rfl, _⟩ := own_form own4
          have O4 := hid own4
          clear S e1 O OL P Q X T Z hz own4 g4 hat hl e4
          go_wp2
          go_roundw
          case rel => exact ⟨k + 1, n + p.n, d4, B4, by omega, by go_num, rfl, hb, O4, P4, Q4, X4, T4, Z4⟩
          case measure => simp [intOf]; omega
      · obtain rfl : k = k3 := by omega
        have R := hid (show ((pxs ps).take k).flatten = (pxs ps).flatten by rw [List.take_of_length_le (by rw [List.length_map, HL.out]; omega)])
        by_cases hk0 : k = 0
        · have hb0 : ((k : Int) == 0) = true := by simp [hk0]
          clear hk0
          go_wp2_with (go_at_call 28; refine (alive_any _).mono ?_; rintro e w' ⟨rfl, rfl⟩)
          go_ret
          exact ⟨rfl, HB.out⟩
        · have hb0 : ((k : Int) == 0) = false := by simpa using hk0
          have D := hid (decide_eq_true (show ((pxs ps).take k).flatten = xs by
            rw [R.out, E2.out]
            refine pagesL_all ?_
            rw [← E2.out, List.length_map, HL.out]; exact hk0))
          have s1 := own_sl HO.out
          have s2 := own_sl HX.out
          clear hk0 R
          go_wp2_with fail
          refine (sameInts_any _ _ _ _ _ _ _ _ _ s1 s2).mono ?_
          rintro e w' ⟨rfl, q7, rfl⟩
          rw [D.out]
          have T7 := below_drewN HB.out q7
          clear s1 s2
          go_wp2
          go_ret
          exact ⟨rfl, T7⟩
end Go.Proofs.Ytocaopabpjfhhaa.fnPagesOf
