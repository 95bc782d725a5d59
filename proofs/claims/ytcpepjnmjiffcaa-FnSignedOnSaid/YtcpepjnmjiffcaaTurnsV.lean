/- The contracts of rotations: whether they are valid. -/
import Derived.Test.YtcpepjnmjiffcaaTurns
namespace Go.Proofs.Ytcpepjnmjiffcaa
open Go.RowKit
set_option linter.unusedVariables false
set_option linter.unusedSimpArgs false

theorem isP.two {p q : Nat} (hp : isP p) (hq : isP q) (h : p ∣ q) : p = q := by
  rcases hq.dvd h with e | e
  · have := hp.1; omega
  · exact e
theorem isP.mul {p c d : Nat} (hp : isP p) (h : p ∣ c * d) : p ∣ c ∨ p ∣ d := by
  have hg := hp.dvd (Nat.gcd_dvd_left p c)
  rcases hg with h1 | h1
  · exact .inr (Nat.Coprime.dvd_of_dvd_mul_left h1 h)
  · exact .inl (h1 ▸ Nat.gcd_dvd_right p c)
theorem prime_pair {a b c d : Nat} (ha : isP a) (hb : isP b) (hc : isP c) (hd : isP d) (h : a * b = c * d) : (a = c ∧ b = d) ∨ (a = d ∧ b = c) := by
  have h1 : a ∣ c * d := ⟨b, h.symm⟩
  have a0 : 0 < a := by have := ha.1; omega
  rcases ha.mul h1 with e | e
  · have e := ha.two hc e
    subst e
    exact .inl ⟨rfl, Nat.eq_of_mul_eq_mul_left a0 h⟩
  · have e := ha.two hd e
    subst e
    exact .inr ⟨rfl, Nat.eq_of_mul_eq_mul_left a0 (by rw [h, Nat.mul_comm])⟩
theorem sameP_mod {a b e c d f : Int} (h : keyV a b e = true) (h' : keyV c d f = true) : (a * b == c * d) = sameP a b c d := by
  obtain ⟨_, _, pa, pb, _⟩ := keyV_iff.1 h
  obtain ⟨_, _, pc, pd, _⟩ := keyV_iff.1 h'
  obtain ⟨a, rfl⟩ := Int.eq_ofNat_of_zero_le (show 0 ≤ a by have := pa.1.1; omega)
  obtain ⟨b, rfl⟩ := Int.eq_ofNat_of_zero_le (show 0 ≤ b by have := pb.1.1; omega)
  obtain ⟨c, rfl⟩ := Int.eq_ofNat_of_zero_le (show 0 ≤ c by have := pc.1.1; omega)
  obtain ⟨d, rfl⟩ := Int.eq_ofNat_of_zero_le (show 0 ≤ d by have := pd.1.1; omega)
  have pa := pa.2; have pb := pb.2; have pc := pc.2; have pd := pd.2
  simp only [Int.toNat_natCast] at pa pb pc pd
  unfold sameP
  rw [Bool.eq_iff_iff]
  simp only [beq_iff_eq, Bool.or_eq_true, Bool.and_eq_true]
  constructor
  · intro h
    have h : a * b = c * d := by exact_mod_cast h
    rcases prime_pair pa pb pc pd h with ⟨e1, e2⟩ | ⟨e1, e2⟩
    · exact .inl ⟨by rw [e1], by rw [e2]⟩
    · exact .inr ⟨by rw [e1], by rw [e2]⟩
  · rintro (⟨e1, e2⟩ | ⟨e1, e2⟩)
    · rw [e1, e2]
    · rw [e1, e2, Int.mul_comm]
theorem getD_of {α : Type} {xs : List α} {k : Nat} {x d : α} (h : xs[k]? = some x) : xs.getD k d = x := by rw [List.getD_eq_getElem?_getD, h]; rfl
/-- What rotations are asked at a place. -/
@[irreducible] noncomputable def tnAt (xs : List Tn) (k : Nat) : Bool :=
  let x := xs.getD k (0, 0, 0, 0); let y := xs.getD (k - 1) (0, 0, 0, 0)
  inB x.1 0 1000000000 && (keyV x.2.1 x.2.2.1 x.2.2.2 && (decide (k = 0) || (decide (y.1 < x.1) && !sameP y.2.1 y.2.2.1 x.2.1 x.2.2.1)))
noncomputable def tnTo (xs : List Tn) (k : Nat) : Bool := (List.range k).all (tnAt xs)
/-- Whether rotations are valid. -/
@[irreducible] noncomputable def tnV (xs : List Tn) : Bool := decide (xs.length ≤ 6) && tnTo xs xs.length
theorem tnTo_succ (xs : List Tn) (k : Nat) : tnTo xs (k + 1) = (tnTo xs k && tnAt xs k) := by unfold tnTo; rw [List.range_succ, List.all_append]; simp
theorem tnTo_at {xs : List Tn} {k n : Nat} (h : tnTo xs n = true) (hk : k < n) : tnAt xs k = true := by
  unfold tnTo at h; rw [List.all_eq_true] at h; exact h k (List.mem_range.2 hk)
theorem tnTo_not {xs : List Tn} {k n : Nat} (hk : k < n) (h : tnAt xs k = false) : tnTo xs n = false := by
  rw [Bool.eq_false_iff]
  intro e
  rw [tnTo_at e hk] at h; cases h
theorem tnV_big {xs : List Tn} (h : ¬ xs.length ≤ 6) : tnV xs = false := by unfold tnV; simp [h]
theorem tnV_not {xs : List Tn} {k : Nat} (hk : k < xs.length) (h : tnAt xs k = false) : tnV xs = false := by unfold tnV; rw [tnTo_not hk h]; simp
theorem tnV_yes {xs : List Tn} (h : xs.length ≤ 6) (h' : tnTo xs xs.length = true) : tnV xs = true := by unfold tnV; simp [h, h']
theorem tnV_end {xs : List Tn} (h' : tnTo xs xs.length = true) : tnV xs = decide (xs.length ≤ 6) := by unfold tnV; simp [h']
theorem tnV_len {xs : List Tn} (h : tnV xs = true) : xs.length ≤ 6 ∧ tnTo xs xs.length = true := by unfold tnV at h; simpa using h
section
variable {xs : List Tn} {k : Nat} {d a b e d' a' b' e' : Int}
theorem tnAt_no1 (h : xs[k]? = some (d, a, b, e)) (x : inB d 0 1000000000 = false) : tnAt xs k = false := by unfold tnAt; rw [getD_of h]; simp [x]
theorem tnAt_no2 (h : xs[k]? = some (d, a, b, e)) (x : keyV a b e = false) : tnAt xs k = false := by unfold tnAt; rw [getD_of h]; simp [x]
theorem tnAt_0 (h : xs[0]? = some (d, a, b, e)) (x : inB d 0 1000000000 = true) (y : keyV a b e = true) : tnAt xs 0 = true := by unfold tnAt; rw [getD_of h]; simp [x, y]
theorem tnAt_s (h : xs[k]? = some (d, a, b, e)) (h' : xs[k - 1]? = some (d', a', b', e')) (hk : 0 < k) (x : inB d 0 1000000000 = true) (y : keyV a b e = true) : tnAt xs k = (decide (d' < d) && !sameP a' b' a b) := by
  unfold tnAt; rw [getD_of h, getD_of h']; simp [x, y, show ¬ k = 0 by omega]
theorem tnAt_key (h : xs[k]? = some (d, a, b, e)) (x : tnAt xs k = true) : keyV a b e = true ∧ inB d 0 1000000000 = true := by
  unfold tnAt at x; rw [getD_of h] at x; simp at x; exact ⟨x.2.1, x.1⟩
end
set_option maxHeartbeats 2000000 in
theorem tnI_any (A : Option Addr) (n c : Nat) (xs : List Tn) (w : World) (h : Sl w A n c 4 (tns xs)) :
    Calls Try.prog 14 #[.slice A n c] w fun e w' => e = .returned (.bool (tnV xs)) ∧ Ext.of w w' := by
  have hlx : xs.length = n := h.count tnC_len (by omega)
  have hmx := h.max
  have hcx := h.cap
  unfold maxLen at hmx
  by_cases hn : n ≤ 6
  · go_enter Try.func14, Try.ntmps14
    go_wp2
    go_loopw [10] (fun i wr => ∃ (k : Nat) (y : Ext), k ≤ n ∧ i = .int .i64 k ∧ wr = More w y ∧ Hid (tnTo xs k = true)) (fun i _ => n - (intOf i).toNat)
    case atStart => exact ⟨0, _, Nat.zero_le _, rfl, more_refl w, rfl⟩
    case round =>
      obtain ⟨k, y, hk, rfl, rfl, hto⟩ := hrel
      by_cases hlt : k < n
      · obtain ⟨ad, d, a, b, e, rfl, hab, c0, c1, c2, c3⟩ := (h.more y).tn hlt
        cases x1 : inB d 0 1000000000 with
        | false =>
          have R := hid (tnV_not (k := k) (by omega) (tnAt_no1 hab x1))
          clear hab hto
          go_wp2_with fail
          generalize hW : (More w y).alloc (Obj.cells #[Value.int IntKind.i64 d, Value.int IntKind.i64 a, Value.int IntKind.i64 b, Value.int IntKind.i64 e] 39) = W
          have hE : Ext.of w W := by rw [← hW]; exact (Ext.of.alloc ⟨y, rfl⟩ _)
          have hc : W.heap[(More w y).heap.size]? = some (.cells #[Value.int IntKind.i64 d, Value.int IntKind.i64 a, Value.int IntKind.i64 b, Value.int IntKind.i64 e] 39 (0, 0)) := by rw [← hW]; exact alloc_new' rfl
          have d0 := cell_of_row W (More w y).heap.size 0 _ _ _ hc
          have d1 := cell_of_row W (More w y).heap.size 1 _ _ _ hc
          have d2 := cell_of_row W (More w y).heap.size 2 _ _ _ hc
          have d3 := cell_of_row W (More w y).heap.size 3 _ _ _ hc
          clear hc hW c0 c1 c2 c3
          go_wp2_with (first | (go_at_call 39; refine (within_any _ _ _ _).mono ?_; rintro e1 w' ⟨rfl, rfl⟩) | (go_at_call 40; refine (keyI_any _ _ _ _).mono ?_; rintro e1 wk ⟨rfl, xk⟩))
          go_ret
          exact ⟨ret_bool R.out.symm, hE⟩
        | true =>
          cases x2 : keyV a b e with
          | false =>
            have R := hid (tnV_not (k := k) (by omega) (tnAt_no2 hab x2))
            clear hab hto
            go_wp2_with fail
            generalize hW : (More w y).alloc (Obj.cells #[Value.int IntKind.i64 d, Value.int IntKind.i64 a, Value.int IntKind.i64 b, Value.int IntKind.i64 e] 39) = W
            have hE : Ext.of w W := by rw [← hW]; exact (Ext.of.alloc ⟨y, rfl⟩ _)
            have hc : W.heap[(More w y).heap.size]? = some (.cells #[Value.int IntKind.i64 d, Value.int IntKind.i64 a, Value.int IntKind.i64 b, Value.int IntKind.i64 e] 39 (0, 0)) := by rw [← hW]; exact alloc_new' rfl
            have d0 := cell_of_row W (More w y).heap.size 0 _ _ _ hc
            have d1 := cell_of_row W (More w y).heap.size 1 _ _ _ hc
            have d2 := cell_of_row W (More w y).heap.size 2 _ _ _ hc
            have d3 := cell_of_row W (More w y).heap.size 3 _ _ _ hc
            clear hc hW c0 c1 c2 c3
            go_wp2_with (first | (go_at_call 39; refine (within_any _ _ _ _).mono ?_; rintro e1 w' ⟨rfl, rfl⟩) | (go_at_call 40; refine (keyI_any _ _ _ _).mono ?_; rintro e1 wk ⟨rfl, xk⟩))
            go_ret
            exact ⟨ret_bool R.out.symm, hE.trans xk⟩
          | true =>
            by_cases hk0 : k = 0
            · have R := hid (show tnTo xs (k + 1) = true by rw [tnTo_succ, hto.out, show tnAt xs k = true by subst hk0; exact tnAt_0 hab x1 x2]; rfl)
              have t0 : decide (0 < k) = false := by simp; omega
              clear hab hto
              have HK := hid hk0; clear hk0
              go_wp2_with fail
              generalize hW : (More w y).alloc (Obj.cells #[Value.int IntKind.i64 d, Value.int IntKind.i64 a, Value.int IntKind.i64 b, Value.int IntKind.i64 e] 39) = W
              have hE : Ext.of w W := by rw [← hW]; exact (Ext.of.alloc ⟨y, rfl⟩ _)
              have hc : W.heap[(More w y).heap.size]? = some (.cells #[Value.int IntKind.i64 d, Value.int IntKind.i64 a, Value.int IntKind.i64 b, Value.int IntKind.i64 e] 39 (0, 0)) := by rw [← hW]; exact alloc_new' rfl
              have d0 := cell_of_row W (More w y).heap.size 0 _ _ _ hc
              have d1 := cell_of_row W (More w y).heap.size 1 _ _ _ hc
              have d2 := cell_of_row W (More w y).heap.size 2 _ _ _ hc
              have d3 := cell_of_row W (More w y).heap.size 3 _ _ _ hc
              clear hc hW c0 c1 c2 c3
              go_wp2_with (first | (go_at_call 39; refine (within_any _ _ _ _).mono ?_; rintro e1 w' ⟨rfl, rfl⟩) | (go_at_call 40; refine (keyI_any _ _ _ _).mono ?_; rintro e1 wk ⟨rfl, xk⟩))
              have g0 := more_cell (xk.cell d0)
              have g1 := more_cell (xk.cell d1)
              have g2 := more_cell (xk.cell d2)
              have g3 := more_cell (xk.cell d3)
              have hE2 := hE.trans xk
              clear d0 d1 d2 d3 xk hE
              refine wp_region_more (by kernel_rfl) (by kernel_rfl) ?_
              repeat (go_big_quiet_step (fail))
              refine wpQuiet_nil ?_
              rintro _ ⟨z, rfl⟩
              go_wp2
              obtain ⟨z', hz'⟩ := hE2.trans ⟨z, rfl⟩
              go_roundw
              case rel => exact ⟨k + 1, z', by omega, by go_num, hz', R⟩
              case measure => simp [intOf]; omega
            · have hk1 : 0 < k := by omega
              clear hk0
              obtain ⟨ad', d', a', b', e', hA, hab', p0, p1, p2, p3⟩ := (h.more y).tn (j := k - 1) (by omega)
              injection hA with hA
              subst hA
              have hS := tnAt_s hab hab' hk1 x1 x2
              have x3 := (tnAt_key hab' (tnTo_at hto.out (show k - 1 < k by omega))).1
              have HX := hid x3
              clear x3
              by_cases hdd : d ≤ d'
              · have R := hid (tnV_not (xs := xs) (k := k) (by omega) (by rw [hS]; simp; omega))
                have t1 : decide (d ≤ d') = true := by simpa using hdd
                clear hab hab' hto hS
                go_wp2_with fail
                generalize hW : (More w y).alloc (Obj.cells #[Value.int IntKind.i64 d, Value.int IntKind.i64 a, Value.int IntKind.i64 b, Value.int IntKind.i64 e] 39) = W
                have hE : Ext.of w W := by rw [← hW]; exact (Ext.of.alloc ⟨y, rfl⟩ _)
                have hc : W.heap[(More w y).heap.size]? = some (.cells #[Value.int IntKind.i64 d, Value.int IntKind.i64 a, Value.int IntKind.i64 b, Value.int IntKind.i64 e] 39 (0, 0)) := by rw [← hW]; exact alloc_new' rfl
                have d0 := cell_of_row W (More w y).heap.size 0 _ _ _ hc
                have d1 := cell_of_row W (More w y).heap.size 1 _ _ _ hc
                have d2 := cell_of_row W (More w y).heap.size 2 _ _ _ hc
                have d3 := cell_of_row W (More w y).heap.size 3 _ _ _ hc
                have eW : Ext.of (More w y) W := by rw [← hW]; exact Ext.of.alloc (Ext.of.refl _) _
                have p0 := eW.cell p0
                have p1 := eW.cell p1
                have p2 := eW.cell p2
                have p3 := eW.cell p3
                clear eW
                clear hc hW c0 c1 c2 c3
                have p1 : W.cell? ⟨(ad.add ((k - 1) * 4)).block, (ad.add ((k - 1) * 4)).off + 1, none⟩ = _ := p1
                have p2 : W.cell? ⟨(ad.add ((k - 1) * 4)).block, (ad.add ((k - 1) * 4)).off + 1 + 1, none⟩ = _ := p2
                have p3 : W.cell? ⟨(ad.add ((k - 1) * 4)).block, (ad.add ((k - 1) * 4)).off + 1 + 2, none⟩ = _ := p3
                go_wp2_with (first | (go_at_call 39; refine (within_any _ _ _ _).mono ?_; rintro e1 w' ⟨rfl, rfl⟩) | (go_at_call 40; refine (keyI_any _ _ _ _).mono ?_; rintro e1 wk ⟨rfl, xk⟩))
                have g0 := more_cell (xk.cell d0)
                have g1 := more_cell (xk.cell d1)
                have g2 := more_cell (xk.cell d2)
                have g3 := more_cell (xk.cell d3)
                have f0 := more_cell (xk.cell p0)
                have f1 := more_cell (xk.cell p1)
                have f2 := more_cell (xk.cell p2)
                have f3 := more_cell (xk.cell p3)
                have hE2 := hE.trans xk
                clear d0 d1 d2 d3 xk hE p0 p1 p2 p3
                refine wp_region_more (by kernel_rfl) (by kernel_rfl) ?_
                repeat (go_big_quiet_step (fail))
                refine wpQuiet_nil ?_
                rintro _ ⟨z, rfl⟩
                go_wp2
                go_ret
                exact ⟨ret_bool R.out.symm, hE2.trans ⟨z, rfl⟩⟩
              · have hdd' : d' < d := by omega
                have t1 : decide (d ≤ d') = false := by simpa using hdd
                cases hb : sameP a' b' a b with
                | true =>
                  have R := hid (tnV_not (xs := xs) (k := k) (by omega) (by rw [hS, hb]; simp))
                  have Cb := fun W => same_any a' b' e' a b e W
                  rw [hb] at Cb
                  clear hab hab' hto hS hb hdd
                  go_wp2_with fail
                  generalize hW : (More w y).alloc (Obj.cells #[Value.int IntKind.i64 d, Value.int IntKind.i64 a, Value.int IntKind.i64 b, Value.int IntKind.i64 e] 39) = W
                  have hE : Ext.of w W := by rw [← hW]; exact (Ext.of.alloc ⟨y, rfl⟩ _)
                  have hc : W.heap[(More w y).heap.size]? = some (.cells #[Value.int IntKind.i64 d, Value.int IntKind.i64 a, Value.int IntKind.i64 b, Value.int IntKind.i64 e] 39 (0, 0)) := by rw [← hW]; exact alloc_new' rfl
                  have d0 := cell_of_row W (More w y).heap.size 0 _ _ _ hc
                  have d1 := cell_of_row W (More w y).heap.size 1 _ _ _ hc
                  have d2 := cell_of_row W (More w y).heap.size 2 _ _ _ hc
                  have d3 := cell_of_row W (More w y).heap.size 3 _ _ _ hc
                  have eW : Ext.of (More w y) W := by rw [← hW]; exact Ext.of.alloc (Ext.of.refl _) _
                  have p0 := eW.cell p0
                  have p1 := eW.cell p1
                  have p2 := eW.cell p2
                  have p3 := eW.cell p3
                  clear eW
                  clear hc hW c0 c1 c2 c3
                  have p1 : W.cell? ⟨(ad.add ((k - 1) * 4)).block, (ad.add ((k - 1) * 4)).off + 1, none⟩ = _ := p1
                  have p2 : W.cell? ⟨(ad.add ((k - 1) * 4)).block, (ad.add ((k - 1) * 4)).off + 1 + 1, none⟩ = _ := p2
                  have p3 : W.cell? ⟨(ad.add ((k - 1) * 4)).block, (ad.add ((k - 1) * 4)).off + 1 + 2, none⟩ = _ := p3
                  go_wp2_with (first | (go_at_call 39; refine (within_any _ _ _ _).mono ?_; rintro e1 w' ⟨rfl, rfl⟩) | (go_at_call 40; refine (keyI_any _ _ _ _).mono ?_; rintro e1 wk ⟨rfl, xk⟩))
                  have g0 := more_cell (xk.cell d0)
                  have g1 := more_cell (xk.cell d1)
                  have g2 := more_cell (xk.cell d2)
                  have g3 := more_cell (xk.cell d3)
                  have f0 := more_cell (xk.cell p0)
                  have f1 := more_cell (xk.cell p1)
                  have f2 := more_cell (xk.cell p2)
                  have f3 := more_cell (xk.cell p3)
                  have hE2 := hE.trans xk
                  clear d0 d1 d2 d3 xk hE p0 p1 p2 p3
                  refine wp_region_more (by kernel_rfl) (by kernel_rfl) ?_
                  repeat (go_big_quiet_step (exact more_of (Cb _)))
                  refine wpQuiet_nil ?_
                  rintro _ ⟨z, rfl⟩
                  go_wp2
                  go_ret
                  exact ⟨ret_bool R.out.symm, hE2.trans ⟨z, rfl⟩⟩
                | false =>
                  have R := hid (show tnTo xs (k + 1) = true by rw [tnTo_succ, hto.out, hS, hb]; simpa using hdd)
                  have Cb := fun W => same_any a' b' e' a b e W
                  rw [hb] at Cb
                  clear hab hab' hto hS hb hdd
                  go_wp2_with fail
                  generalize hW : (More w y).alloc (Obj.cells #[Value.int IntKind.i64 d, Value.int IntKind.i64 a, Value.int IntKind.i64 b, Value.int IntKind.i64 e] 39) = W
                  have hE : Ext.of w W := by rw [← hW]; exact (Ext.of.alloc ⟨y, rfl⟩ _)
                  have hc : W.heap[(More w y).heap.size]? = some (.cells #[Value.int IntKind.i64 d, Value.int IntKind.i64 a, Value.int IntKind.i64 b, Value.int IntKind.i64 e] 39 (0, 0)) := by rw [← hW]; exact alloc_new' rfl
                  have d0 := cell_of_row W (More w y).heap.size 0 _ _ _ hc
                  have d1 := cell_of_row W (More w y).heap.size 1 _ _ _ hc
                  have d2 := cell_of_row W (More w y).heap.size 2 _ _ _ hc
                  have d3 := cell_of_row W (More w y).heap.size 3 _ _ _ hc
                  have eW : Ext.of (More w y) W := by rw [← hW]; exact Ext.of.alloc (Ext.of.refl _) _
                  have p0 := eW.cell p0
                  have p1 := eW.cell p1
                  have p2 := eW.cell p2
                  have p3 := eW.cell p3
                  clear eW
                  clear hc hW c0 c1 c2 c3
                  have p1 : W.cell? ⟨(ad.add ((k - 1) * 4)).block, (ad.add ((k - 1) * 4)).off + 1, none⟩ = _ := p1
                  have p2 : W.cell? ⟨(ad.add ((k - 1) * 4)).block, (ad.add ((k - 1) * 4)).off + 1 + 1, none⟩ = _ := p2
                  have p3 : W.cell? ⟨(ad.add ((k - 1) * 4)).block, (ad.add ((k - 1) * 4)).off + 1 + 2, none⟩ = _ := p3
                  go_wp2_with (first | (go_at_call 39; refine (within_any _ _ _ _).mono ?_; rintro e1 w' ⟨rfl, rfl⟩) | (go_at_call 40; refine (keyI_any _ _ _ _).mono ?_; rintro e1 wk ⟨rfl, xk⟩))
                  have g0 := more_cell (xk.cell d0)
                  have g1 := more_cell (xk.cell d1)
                  have g2 := more_cell (xk.cell d2)
                  have g3 := more_cell (xk.cell d3)
                  have f0 := more_cell (xk.cell p0)
                  have f1 := more_cell (xk.cell p1)
                  have f2 := more_cell (xk.cell p2)
                  have f3 := more_cell (xk.cell p3)
                  have hE2 := hE.trans xk
                  clear d0 d1 d2 d3 xk hE p0 p1 p2 p3
                  refine wp_region_more (by kernel_rfl) (by kernel_rfl) ?_
                  repeat (go_big_quiet_step (exact more_of (Cb _)))
                  refine wpQuiet_nil ?_
                  rintro _ ⟨z, rfl⟩
                  go_wp2
                  obtain ⟨z', hz'⟩ := hE2.trans ⟨z, rfl⟩
                  go_roundw
                  case rel => exact ⟨k + 1, z', by omega, by go_num, hz', R⟩
                  case measure => simp [intOf]; omega
      · obtain rfl : k = n := by omega
        have R := hid (tnV_yes (xs := xs) (by omega) (by rw [hlx]; exact hto.out))
        go_wp2
        go_ret
        exact ⟨ret_bool R.out.symm, ⟨_, rfl⟩⟩
  · have R := hid (tnV_big (xs := xs) (by omega))
    go_enter Try.func14, Try.ntmps14
    go_wp2
    go_ret
    exact ⟨ret_bool R.out.symm, Ext.of.refl _⟩
set_option maxHeartbeats 2000000 in
theorem tnS_any (A : Option Addr) (n c : Nat) (xs : List Tn) (w : World) (h : Sl w A n c 4 (tns xs)) :
    Calls Try.prog 12 #[.slice A n c] w fun e w' => e = .returned (.bool (tnV xs)) ∧ Ext.of w w' := by
  have hlx : xs.length = n := h.count tnC_len (by omega)
  have hmx := h.max
  have hcx := h.cap
  unfold maxLen at hmx
  go_enter Try.func12, Try.ntmps12
  go_wp2
  go_loopw [3] (fun i wr => ∃ (k : Nat) (y : Ext), k ≤ n ∧ i = .int .i64 k ∧ wr = More w y ∧ Hid (tnTo xs k = true)) (fun i _ => n - (intOf i).toNat)
  case atStart => exact ⟨0, _, Nat.zero_le _, rfl, more_refl w, rfl⟩
  case round =>
    obtain ⟨k, y, hk, rfl, rfl, hto⟩ := hrel
    by_cases hlt : k < n
    · obtain ⟨ad, d, a, b, e, rfl, hab, c0, c1, c2, c3⟩ := (h.more y).tn hlt
      cases x2 : keyV a b e with
      | false =>
        have R := hid (tnV_not (k := k) (by omega) (tnAt_no2 hab x2))
        clear hab hto
        generalize hW : More w y = W at *
        have hE : Ext.of w W := by rw [← hW]; exact ⟨y, rfl⟩
        have d0 := c0
        have d1 : W.cell? ⟨(ad.add (k * 4)).block, (ad.add (k * 4)).off + 1, none⟩ = _ := c1
        have d2 : W.cell? ⟨(ad.add (k * 4)).block, (ad.add (k * 4)).off + 1 + 1, none⟩ = _ := c2
        have d3 : W.cell? ⟨(ad.add (k * 4)).block, (ad.add (k * 4)).off + 1 + 2, none⟩ = _ := c3
        clear hW c0 c1 c2 c3
        go_wp2_with (first | (go_at_call 37; refine (l1In_any _ _ _ _).mono ?_; rintro e1 w' ⟨rfl, rfl⟩) | (go_at_call 36; refine (keyS_any _ _ _ _).mono ?_; rintro e1 wk ⟨rfl, xk⟩; have q0 := xk.cell d0))
        go_ret
        exact ⟨ret_bool R.out.symm, hE.trans xk⟩
      | true =>
        cases x1 : inB d 0 1000000000 with
        | false =>
          have R := hid (tnV_not (k := k) (by omega) (tnAt_no1 hab x1))
          clear hab hto
          generalize hW : More w y = W at *
          have hE : Ext.of w W := by rw [← hW]; exact ⟨y, rfl⟩
          have d0 := c0
          have d1 : W.cell? ⟨(ad.add (k * 4)).block, (ad.add (k * 4)).off + 1, none⟩ = _ := c1
          have d2 : W.cell? ⟨(ad.add (k * 4)).block, (ad.add (k * 4)).off + 1 + 1, none⟩ = _ := c2
          have d3 : W.cell? ⟨(ad.add (k * 4)).block, (ad.add (k * 4)).off + 1 + 2, none⟩ = _ := c3
          clear hW c0 c1 c2 c3
          go_wp2_with (first | (go_at_call 37; refine (l1In_any _ _ _ _).mono ?_; rintro e1 w' ⟨rfl, rfl⟩) | (go_at_call 36; refine (keyS_any _ _ _ _).mono ?_; rintro e1 wk ⟨rfl, xk⟩; have q0 := xk.cell d0))
          go_ret
          exact ⟨ret_bool R.out.symm, hE.trans xk⟩
        | true =>
          by_cases hk0 : k = 0
          · have R := hid (show tnTo xs (k + 1) = true by rw [tnTo_succ, hto.out, show tnAt xs k = true by subst hk0; exact tnAt_0 hab x1 x2]; rfl)
            have t0 : decide (0 < k) = false := by simp; omega
            clear hab hto
            have HK := hid hk0; clear hk0
            generalize hW : More w y = W at *
            have hE : Ext.of w W := by rw [← hW]; exact ⟨y, rfl⟩
            have d0 := c0
            have d1 : W.cell? ⟨(ad.add (k * 4)).block, (ad.add (k * 4)).off + 1, none⟩ = _ := c1
            have d2 : W.cell? ⟨(ad.add (k * 4)).block, (ad.add (k * 4)).off + 1 + 1, none⟩ = _ := c2
            have d3 : W.cell? ⟨(ad.add (k * 4)).block, (ad.add (k * 4)).off + 1 + 2, none⟩ = _ := c3
            clear hW c0 c1 c2 c3
            go_wp2_with (first | (go_at_call 37; refine (l1In_any _ _ _ _).mono ?_; rintro e1 w' ⟨rfl, rfl⟩) | (go_at_call 36; refine (keyS_any _ _ _ _).mono ?_; rintro e1 wk ⟨rfl, xk⟩; have q0 := xk.cell d0))
            have g0 := more_cell (xk.cell d0)
            have g1 := more_cell (xk.cell d1)
            have g2 := more_cell (xk.cell d2)
            have g3 := more_cell (xk.cell d3)
            have hE2 := hE.trans xk
            clear d0 d1 d2 d3 xk hE
            refine wp_region_more (by kernel_rfl) (by kernel_rfl) ?_
            repeat (go_big_quiet_step (fail))
            refine wpQuiet_nil ?_
            rintro _ ⟨z, rfl⟩
            go_wp2
            obtain ⟨z', hz'⟩ := hE2.trans ⟨z, rfl⟩
            go_roundw
            case rel => exact ⟨k + 1, z', by omega, by go_num, hz', R⟩
            case measure => simp [intOf]; omega
          · have hk1 : 0 < k := by omega
            clear hk0
            obtain ⟨ad', d', a', b', e', hA, hab', p0, p1, p2, p3⟩ := (h.more y).tn (j := k - 1) (by omega)
            injection hA with hA
            subst hA
            have hS := tnAt_s hab hab' hk1 x1 x2
            have x3 := (tnAt_key hab' (tnTo_at hto.out (show k - 1 < k by omega))).1
            have HX := hid x3
            clear x3
            by_cases hdd : d ≤ d'
            · have R := hid (tnV_not (xs := xs) (k := k) (by omega) (by rw [hS]; simp; omega))
              have t1 : decide (d ≤ d') = true := by simpa using hdd
              clear hab hab' hto hS
              generalize hW : More w y = W at *
              have hE : Ext.of w W := by rw [← hW]; exact ⟨y, rfl⟩
              have d0 := c0
              have d1 : W.cell? ⟨(ad.add (k * 4)).block, (ad.add (k * 4)).off + 1, none⟩ = _ := c1
              have d2 : W.cell? ⟨(ad.add (k * 4)).block, (ad.add (k * 4)).off + 1 + 1, none⟩ = _ := c2
              have d3 : W.cell? ⟨(ad.add (k * 4)).block, (ad.add (k * 4)).off + 1 + 2, none⟩ = _ := c3
              clear hW c0 c1 c2 c3
              have p1 : W.cell? ⟨(ad.add ((k - 1) * 4)).block, (ad.add ((k - 1) * 4)).off + 1, none⟩ = _ := p1
              have p2 : W.cell? ⟨(ad.add ((k - 1) * 4)).block, (ad.add ((k - 1) * 4)).off + 1 + 1, none⟩ = _ := p2
              have p3 : W.cell? ⟨(ad.add ((k - 1) * 4)).block, (ad.add ((k - 1) * 4)).off + 1 + 2, none⟩ = _ := p3
              go_wp2_with (first | (go_at_call 37; refine (l1In_any _ _ _ _).mono ?_; rintro e1 w' ⟨rfl, rfl⟩) | (go_at_call 36; refine (keyS_any _ _ _ _).mono ?_; rintro e1 wk ⟨rfl, xk⟩; have q0 := xk.cell d0))
              have g0 := more_cell (xk.cell d0)
              have g1 := more_cell (xk.cell d1)
              have g2 := more_cell (xk.cell d2)
              have g3 := more_cell (xk.cell d3)
              have f0 := more_cell (xk.cell p0)
              have f1 := more_cell (xk.cell p1)
              have f2 := more_cell (xk.cell p2)
              have f3 := more_cell (xk.cell p3)
              have hE2 := hE.trans xk
              clear d0 d1 d2 d3 xk hE p0 p1 p2 p3
              refine wp_region_more (by kernel_rfl) (by kernel_rfl) ?_
              repeat (go_big_quiet_step (fail))
              refine wpQuiet_nil ?_
              rintro _ ⟨z, rfl⟩
              go_wp2
              go_ret
              exact ⟨ret_bool R.out.symm, hE2.trans ⟨z, rfl⟩⟩
            · have hdd' : d' < d := by omega
              have t1 : decide (d ≤ d') = false := by simpa using hdd
              cases hb : sameP a' b' a b with
              | true =>
                have R := hid (tnV_not (xs := xs) (k := k) (by omega) (by rw [hS, hb]; simp))
                have hmm : (modF a b e == modF a' b' e') = true := by rw [modF_yes x2, modF_yes HX.out, ← hb, ← sameP_mod HX.out x2]; exact Bool.beq_comm
                clear hab hab' hto hS hb hdd
                generalize hW : More w y = W at *
                have hE : Ext.of w W := by rw [← hW]; exact ⟨y, rfl⟩
                have d0 := c0
                have d1 : W.cell? ⟨(ad.add (k * 4)).block, (ad.add (k * 4)).off + 1, none⟩ = _ := c1
                have d2 : W.cell? ⟨(ad.add (k * 4)).block, (ad.add (k * 4)).off + 1 + 1, none⟩ = _ := c2
                have d3 : W.cell? ⟨(ad.add (k * 4)).block, (ad.add (k * 4)).off + 1 + 2, none⟩ = _ := c3
                clear hW c0 c1 c2 c3
                have p1 : W.cell? ⟨(ad.add ((k - 1) * 4)).block, (ad.add ((k - 1) * 4)).off + 1, none⟩ = _ := p1
                have p2 : W.cell? ⟨(ad.add ((k - 1) * 4)).block, (ad.add ((k - 1) * 4)).off + 1 + 1, none⟩ = _ := p2
                have p3 : W.cell? ⟨(ad.add ((k - 1) * 4)).block, (ad.add ((k - 1) * 4)).off + 1 + 2, none⟩ = _ := p3
                go_wp2_with (first | (go_at_call 37; refine (l1In_any _ _ _ _).mono ?_; rintro e1 w' ⟨rfl, rfl⟩) | (go_at_call 36; refine (keyS_any _ _ _ _).mono ?_; rintro e1 wk ⟨rfl, xk⟩; have q0 := xk.cell d0))
                have g0 := more_cell (xk.cell d0)
                have g1 := more_cell (xk.cell d1)
                have g2 := more_cell (xk.cell d2)
                have g3 := more_cell (xk.cell d3)
                have f0 := more_cell (xk.cell p0)
                have f1 := more_cell (xk.cell p1)
                have f2 := more_cell (xk.cell p2)
                have f3 := more_cell (xk.cell p3)
                have hE2 := hE.trans xk
                clear d0 d1 d2 d3 xk hE p0 p1 p2 p3
                refine wp_region_more (by kernel_rfl) (by kernel_rfl) ?_
                repeat (go_big_quiet_step (exact more_of (modS_any _ _ _ _)))
                refine wpQuiet_nil ?_
                rintro _ ⟨z, rfl⟩
                go_wp2
                go_ret
                exact ⟨ret_bool R.out.symm, hE2.trans ⟨z, rfl⟩⟩
              | false =>
                have R := hid (show tnTo xs (k + 1) = true by rw [tnTo_succ, hto.out, hS, hb]; simpa using hdd)
                have hmm : (modF a b e == modF a' b' e') = false := by rw [modF_yes x2, modF_yes HX.out, ← hb, ← sameP_mod HX.out x2]; exact Bool.beq_comm
                clear hab hab' hto hS hb hdd
                generalize hW : More w y = W at *
                have hE : Ext.of w W := by rw [← hW]; exact ⟨y, rfl⟩
                have d0 := c0
                have d1 : W.cell? ⟨(ad.add (k * 4)).block, (ad.add (k * 4)).off + 1, none⟩ = _ := c1
                have d2 : W.cell? ⟨(ad.add (k * 4)).block, (ad.add (k * 4)).off + 1 + 1, none⟩ = _ := c2
                have d3 : W.cell? ⟨(ad.add (k * 4)).block, (ad.add (k * 4)).off + 1 + 2, none⟩ = _ := c3
                clear hW c0 c1 c2 c3
                have p1 : W.cell? ⟨(ad.add ((k - 1) * 4)).block, (ad.add ((k - 1) * 4)).off + 1, none⟩ = _ := p1
                have p2 : W.cell? ⟨(ad.add ((k - 1) * 4)).block, (ad.add ((k - 1) * 4)).off + 1 + 1, none⟩ = _ := p2
                have p3 : W.cell? ⟨(ad.add ((k - 1) * 4)).block, (ad.add ((k - 1) * 4)).off + 1 + 2, none⟩ = _ := p3
                go_wp2_with (first | (go_at_call 37; refine (l1In_any _ _ _ _).mono ?_; rintro e1 w' ⟨rfl, rfl⟩) | (go_at_call 36; refine (keyS_any _ _ _ _).mono ?_; rintro e1 wk ⟨rfl, xk⟩; have q0 := xk.cell d0))
                have g0 := more_cell (xk.cell d0)
                have g1 := more_cell (xk.cell d1)
                have g2 := more_cell (xk.cell d2)
                have g3 := more_cell (xk.cell d3)
                have f0 := more_cell (xk.cell p0)
                have f1 := more_cell (xk.cell p1)
                have f2 := more_cell (xk.cell p2)
                have f3 := more_cell (xk.cell p3)
                have hE2 := hE.trans xk
                clear d0 d1 d2 d3 xk hE p0 p1 p2 p3
                refine wp_region_more (by kernel_rfl) (by kernel_rfl) ?_
                repeat (go_big_quiet_step (exact more_of (modS_any _ _ _ _)))
                refine wpQuiet_nil ?_
                rintro _ ⟨z, rfl⟩
                go_wp2
                obtain ⟨z', hz'⟩ := hE2.trans ⟨z, rfl⟩
                go_roundw
                case rel => exact ⟨k + 1, z', by omega, by go_num, hz', R⟩
                case measure => simp [intOf]; omega
    · obtain rfl : k = n := by omega
      have R := hid (tnV_end (xs := xs) (by rw [hlx]; exact hto.out))
      rw [hlx] at R
      go_wp2
      go_ret
      exact ⟨ret_bool (by rw [R.out]; simp; omega), ⟨_, rfl⟩⟩
end Go.Proofs.Ytcpepjnmjiffcaa
