/- The walk of FnInboxValid: it returns true and turns nothing that was there. -/
import Derived.Test.YtoagpfdhbcgdcaaDrawIbV
import Derived.Test.YtoagpfdhbcgdcaaEnvW
namespace Go.Proofs.Ytoagpfdhbcgdcaa.fnInboxValid
open Go.RowKit
set_option linter.unusedVariables false
set_option linter.unusedSimpArgs false
set_option maxRecDepth 8000
theorem ib_nil {xs : List Hd} {zs : List Int} (h : ibV xs zs = true) : ibV xs [] = true := ib_yes (ib_parts h).1 (by simp) rfl
theorem ib_twice (xs : List Hd) {zs : List Int} {z : Int} (h : zs[0]? = some z) : ibV xs (z :: zs) = false := by
  have hlt := (List.getElem?_eq_some_iff.1 h).1
  have h1 : (z :: zs)[1]? = some z := by simpa using h
  cases hi : inB z 0 999982 with
  | false => exact ib_no3 (k := 1) (by simp; omega) (seen_no1 h1 hi)
  | true => exact ib_no3 (k := 1) (by simp; omega) (by rw [seen_eq h1 hi]; simp)
def TrA (i : Nat) (a b : World) : Prop := i = 14 ∨ Ext.of a b
set_option maxHeartbeats 4000000 in
theorem walk (a0 : Option Addr) (len0 cap0 : Nat) (z0 : List Int) (w : World) (w0 : Row .u8 w a0 len0 cap0 z0) :
    Calls Try.prog 4 #[.slice a0 len0 cap0] w fun e w' => e = .returned (.bool true) ∧ Below w.heap.size w w' := by
  have hmax := w0.sl.max
  have hcap := w0.sl.cap
  unfold maxLen at hmax
  by_cases hn : 1048576 < len0
  · go_enter Try.func4, Try.ntmps4
    go_wp2
    go_ret
    exact ⟨rfl, Below.refl _ _⟩
  · go_enter Try.func4, Try.ntmps4
    go_wp2_with fail
    refine (drawInbox_any _ _ _ _ _ w0).mono ?_
    rintro e w1 ⟨v, rfl, ⟨C, n, c, D, m, d, xs, zs, rfl, o1, o2, hok, hn1, hm1⟩, T1⟩
    have HOK := hid hok
    have HL := hid (show zs.length = m by have := (own_sl o2).len; simpa using this)
    have hx : (w1.alloc (.cells #[.slice C n c, .slice D m d] 30)).heap[w1.heap.size]? = some (.cells #[.slice C n c, .slice D m d] 30 (0, 0)) := alloc_new' rfl
    have o1 := o1.alloc (.cells #[.slice C n c, .slice D m d] 30)
    have o2 := o2.alloc (.cells #[.slice C n c, .slice D m d] 30)
    have T1 := T1.alloc T1.size (.cells #[.slice C n c, .slice D m d] 30)
    clear w0 hmax hcap hn hok
    go_wp2_with fail
    generalize w1.alloc (.cells #[.slice C n c, .slice D m d] 30) = w2 at *
    generalize w1.heap.size = g at *
    obtain ⟨V, hV⟩ : ∃ V, ibV xs zs = V := ⟨_, rfl⟩
    have CI := fun W (h1 : Sl W C n c 2 (hds xs)) (h2 : Sl W D m d 1 (ints zs)) => ibI_any C n c xs D m d zs W h1 HOK.out h2
    have CS := fun W (h1 : Sl W C n c 2 (hds xs)) (h2 : Sl W D m d 1 (ints zs)) => ibS_any C n c xs D m d zs W h1 HOK.out h2
    rw [hV] at CI CS
    have HV := hid hV
    clear hV
    refine (CI _ (own_sl o1) (own_sl o2)).mono ?_
    rintro e w3 ⟨rfl, x3⟩
    have o1 := own_ext o1 x3
    have o2 := own_ext o2 x3
    have T3 := below_next T1 x3.below
    have hx := (x3.block (Array.getElem?_eq_some_iff.1 hx).1).trans hx
    have b0 := cell_of_row _ g 0 _ _ _ hx
    have b1 := cell_of_row _ g 1 _ _ _ hx
    clear x3 T1 CI
    go_wp2_with fail
    refine (CS _ (own_sl o1) (own_sl o2)).mono ?_
    rintro e w4 ⟨rfl, x4⟩
    have o1 := own_ext o1 x4
    have o2 := own_ext o2 x4
    have T4 := below_next T3 x4.below
    have hx := (x4.block (Array.getElem?_eq_some_iff.1 hx).1).trans hx
    have b0 := cell_of_row _ g 0 _ _ _ hx
    have b1 := cell_of_row _ g 1 _ _ _ hx
    have hq : (V == V) = true := by simp
    clear x4 T3 CS
    by_cases hgo : V = true ∧ 0 < m
    · obtain ⟨rfl, hm0⟩ := hgo
      have hmb : ((m : Int) == 0) = false := by rw [beq_eq_false_iff_ne]; omega
      obtain ⟨ad, z, rfl, hz, c0⟩ := (own_sl o2).int (k := 0) (by omega)
      rw [addr_zero] at c0
      have HZ := hid hz
      have s1 := own_sl o1
      have s2 := own_sl o2
      have hcap := s2.cap
      clear hz o1 o2
      go_wp2_with fail
      refine wp_region_envw (W := fun _ w' => Ext.of w4 w') (dead := fun i j => i == 14 && (j == 11)) (Tr := TrA) (F := fun i env w' => match i with
          | 0 => env 0 = .pointer (some ⟨g, 0, none⟩)
          | 1 => env 1 = .slice C n c
          | 2 => env 2 = ibA C n c none 0 0
          | 3 => env 3 = .bool true
          | 4 => env 4 = .bool true
          | 5 => env 5 = .pointer (some ⟨g, 0, none⟩)
          | 6 => env 6 = .slice C n c
          | 7 => env 7 = .pointer (some ⟨g, 1, none⟩)
          | 8 => env 8 = .slice (some ad) m d
          | 9 => env 9 = .pointer (some ad)
          | 10 => env 10 = .int .i64 z
          | 11 => ∃ b, env 11 = .slice (some ⟨b, 0, none⟩) 1 1 ∧ (w4.heap.size ≤ b ∧ w'.heap[b]? = some (.cells #[.int .i64 z] 3 (0, 0)))
          | 12 => env 12 = .pointer (some ⟨g, 1, none⟩)
          | 13 => env 13 = .slice (some ad) m d
          | 14 => ∃ E e1, env 14 = .slice E (1 + m) e1 ∧ w'.ownsRow w4.heap.size 3 1 (.slice E (1 + m) e1) (1 + m) (ints (z :: zs))
          | 15 => ∃ E e1, env 15 = ibA C n c E (1 + m) e1 ∧ w'.ownsRow w4.heap.size 3 1 (.slice E (1 + m) e1) (1 + m) (ints (z :: zs))
          | 16 => env 16 = .bool false
          | 17 => env 17 = .bool true
          | 18 => env 18 = .bool true
          | 19 => env 19 = .bool true
          | _ => True) (by kernel_rfl) (by kernel_rfl) (by kernel_rfl) (by kernel_rfl) ?_ ?_ ?_ ?_ ?_
      · exact Ext.of.drew (Ext.of.refl _)
      · intro j env env' w hj he hF
        match j with
        | 0 => exact (he 0 (.inl rfl)).symm.trans hF
        | 1 => exact (he 1 (.inl rfl)).symm.trans hF
        | 2 => exact (he 2 (.inl rfl)).symm.trans hF
        | 3 => exact (he 3 (.inl rfl)).symm.trans hF
        | 4 => exact (he 4 (.inl rfl)).symm.trans hF
        | 5 => exact (he 5 (.inl rfl)).symm.trans hF
        | 6 => exact (he 6 (.inl rfl)).symm.trans hF
        | 7 => exact (he 7 (.inl rfl)).symm.trans hF
        | 8 => exact (he 8 (.inl rfl)).symm.trans hF
        | 9 => exact (he 9 (.inl rfl)).symm.trans hF
        | 10 => exact (he 10 (.inl rfl)).symm.trans hF
        | 11 => obtain ⟨b, e, r⟩ := hF; exact ⟨b, (he 11 (.inl rfl)).symm.trans e, r⟩
        | 12 => exact (he 12 (.inl rfl)).symm.trans hF
        | 13 => exact (he 13 (.inl rfl)).symm.trans hF
        | 14 => obtain ⟨E, e1, e, r⟩ := hF; exact ⟨E, e1, (he 14 (.inl rfl)).symm.trans e, r⟩
        | 15 => obtain ⟨E, e1, e, r⟩ := hF; exact ⟨E, e1, (he 15 (.inl rfl)).symm.trans e, r⟩
        | 16 => exact (he 16 (.inl rfl)).symm.trans hF
        | 17 => exact (he 17 (.inl rfl)).symm.trans hF
        | 18 => exact (he 18 (.inl rfl)).symm.trans hF
        | 19 => exact (he 19 (.inl rfl)).symm.trans hF
        | _ + 20 => exact hF
      · intro i j kk env a b hi hj hne hdd haa hW hT hF
        by_cases es : i = 14
        · subst es
          skip
          match j with
          | 0 => exact hF
          | 1 => exact hF
          | 2 => exact hF
          | 3 => exact hF
          | 4 => exact hF
          | 5 => exact hF
          | 6 => exact hF
          | 7 => exact hF
          | 8 => exact hF
          | 9 => exact hF
          | 10 => exact hF
          | 11 => exact absurd hdd (by decide)
          | 12 => exact hF
          | 13 => exact hF
          | 14 => exact absurd rfl hne
          | 15 => exact absurd (haa.symm.trans (show ancB _ _ _ _ = true by kernel_rfl)) (by decide)
          | 16 => exact hF
          | 17 => exact hF
          | 18 => exact hF
          | 19 => exact hF
          | _ + 20 => exact hF
        · have hB : Ext.of a b := hT.resolve_left es
          match j with
          | 0 => exact hF
          | 1 => exact hF
          | 2 => exact hF
          | 3 => exact hF
          | 4 => exact hF
          | 5 => exact hF
          | 6 => exact hF
          | 7 => exact hF
          | 8 => exact hF
          | 9 => exact hF
          | 10 => exact hF
          | 11 => obtain ⟨b, e, h1, h2⟩ := hF; exact ⟨b, e, h1, (hB.block (Array.getElem?_eq_some_iff.1 h2).1).trans h2⟩
          | 12 => exact hF
          | 13 => exact hF
          | 14 =>
            obtain ⟨E, e1, e, h⟩ := hF; exact ⟨E, e1, e, own_ext h hB⟩
          | 15 => obtain ⟨E, e1, e, h⟩ := hF; exact ⟨E, e1, e, own_ext h hB⟩
          | 16 => exact hF
          | 17 => exact hF
          | 18 => exact hF
          | 19 => exact hF
          | _ + 20 => exact hF
      · refine ⟨fun kk ρ env u hk hc hf hg ht hW hd hGF => ?_, ?_⟩
        · refine yieldW_on rfl ?_
          have p0 : ρ (.tmp 3) = .pointer (some ⟨g, 0, none⟩) := (ht 3).trans (by kernel_rfl)
          exact yield_value (w' := u) (.pointer (some ⟨g, 0, none⟩)) (by simp [go_sem, hc, hf, p0]) ⟨upd_same _ _ _, hW, .inr (Ext.of.refl _)⟩
        refine ⟨fun kk ρ env u hk hc hf hg ht hW hd hGF => ?_, ?_⟩
        · refine yieldW_on rfl ?_
          have e0 : ρ (.tmp 25) = env 0 := (ht 25).trans (by kernel_rfl)
          have q0 : env 0 = .pointer (some ⟨g, 0, none⟩) := hd.1 rfl
          rw [q0] at e0
          have y0 := hW.cell b0
          exact yield_value (w' := u) (.slice C n c) (by simp [go_sem, hc, hf, e0, y0]) ⟨upd_same _ _ _, hW, .inr (Ext.of.refl _)⟩
        refine ⟨fun kk ρ env u hk hc hf hg ht hW hd hGF => ?_, ?_⟩
        · refine yieldW_on rfl ?_
          have e1 : ρ (.tmp 26) = env 1 := (ht 26).trans (by kernel_rfl)
          have q1 : env 1 = .slice C n c := hd.1 rfl
          rw [q1] at e1
          exact yield_value (w' := u) (ibA C n c none 0 0) (by simp [go_sem, hc, hf, e1]) ⟨upd_same _ _ _, hW, .inr (Ext.of.refl _)⟩
        refine ⟨fun kk ρ env u hk hc hf hg ht hW hd hGF => ?_, ?_⟩
        · refine yieldW_on rfl ?_
          have e2 : ρ (.tmp 27) = env 2 := (ht 27).trans (by kernel_rfl)
          have q2 : env 2 = ibA C n c none 0 0 := hd.1 rfl
          rw [q2] at e2
          have C1 := ibI_any C n c xs none 0 0 [] u (s1.ext hW) HOK.out (Sl.nil_ _ _)
          rw [ib_nil HV.out] at C1
          refine yield_call 8 #[ibA C n c none 0 0] (by simp [go_sem, hc, hf, e2]) ?_
          refine C1.mono ?_
          rintro e w' ⟨rfl, x⟩
          exact ⟨_, rfl, upd_same _ _ _, hW.trans x, .inr x⟩
        refine ⟨fun kk ρ env u hk hc hf hg ht hW hd hGF => ?_, ?_⟩
        · refine yieldW_on rfl ?_
          have e3 : ρ (.tmp 28) = env 3 := (ht 28).trans (by kernel_rfl)
          have q3 : env 3 = .bool true := hd.1 rfl
          exact yield_move _ rfl ⟨(upd_same _ _ _).trans (e3.trans q3), hW, .inr (Ext.of.refl _)⟩
        refine ⟨fun kk ρ env u hk hc hf hg ht hW hd hGF => ?_, ?_⟩
        · have hwg : env 4 = .bool true := hGF
          refine yieldW_on (by simp [wantB, hwg]) ?_
          have p0 : ρ (.tmp 3) = .pointer (some ⟨g, 0, none⟩) := (ht 3).trans (by kernel_rfl)
          exact yield_value (w' := u) (.pointer (some ⟨g, 0, none⟩)) (by simp [go_sem, hc, hf, p0]) ⟨upd_same _ _ _, hW, .inr (Ext.of.refl _)⟩
        refine ⟨fun kk ρ env u hk hc hf hg ht hW hd hGF => ?_, ?_⟩
        · have hwg : env 4 = .bool true := hGF
          refine yieldW_on (by simp [wantB, hwg]) ?_
          have e5 : ρ (.tmp 30) = env 5 := (ht 30).trans (by kernel_rfl)
          have q5 : env 5 = .pointer (some ⟨g, 0, none⟩) := hd.1 rfl
          rw [q5] at e5
          have y0 := hW.cell b0
          exact yield_value (w' := u) (.slice C n c) (by simp [go_sem, hc, hf, e5, y0]) ⟨upd_same _ _ _, hW, .inr (Ext.of.refl _)⟩
        refine ⟨fun kk ρ env u hk hc hf hg ht hW hd hGF => ?_, ?_⟩
        · have hwg : env 4 = .bool true := hGF
          refine yieldW_on (by simp [wantB, hwg]) ?_
          have p0 : ρ (.tmp 3) = .pointer (some ⟨g, 0, none⟩) := (ht 3).trans (by kernel_rfl)
          exact yield_value (w' := u) (.pointer (some ⟨g, 1, none⟩)) (by simp [go_sem, hc, hf, p0]) ⟨upd_same _ _ _, hW, .inr (Ext.of.refl _)⟩
        refine ⟨fun kk ρ env u hk hc hf hg ht hW hd hGF => ?_, ?_⟩
        · have hwg : env 4 = .bool true := hGF
          refine yieldW_on (by simp [wantB, hwg]) ?_
          have e7 : ρ (.tmp 32) = env 7 := (ht 32).trans (by kernel_rfl)
          have q7 : env 7 = .pointer (some ⟨g, 1, none⟩) := hd.1 rfl
          rw [q7] at e7
          have y0 := hW.cell b1
          exact yield_value (w' := u) (.slice (some ad) m d) (by simp [go_sem, hc, hf, e7, y0]) ⟨upd_same _ _ _, hW, .inr (Ext.of.refl _)⟩
        refine ⟨fun kk ρ env u hk hc hf hg ht hW hd hGF => ?_, ?_⟩
        · have hwg : env 4 = .bool true := hGF
          refine yieldW_on (by simp [wantB, hwg]) ?_
          have e8 : ρ (.tmp 33) = env 8 := (ht 33).trans (by kernel_rfl)
          have q8 : env 8 = .slice (some ad) m d := hd.1 rfl
          rw [q8] at e8
          exact yield_value (w' := u) (.pointer (some ad)) (by simp [go_sem, hc, hf, e8, hm0, addr_zero, IntWalk.i64_in]) ⟨upd_same _ _ _, hW, .inr (Ext.of.refl _)⟩
        refine ⟨fun kk ρ env u hk hc hf hg ht hW hd hGF => ?_, ?_⟩
        · have hwg : env 4 = .bool true := hGF
          refine yieldW_on (by simp [wantB, hwg]) ?_
          have e9 : ρ (.tmp 34) = env 9 := (ht 34).trans (by kernel_rfl)
          have q9 : env 9 = .pointer (some ad) := hd.1 rfl
          rw [q9] at e9
          have y0 := hW.cell c0
          exact yield_value (w' := u) (.int .i64 z) (by simp [go_sem, hc, hf, e9, y0]) ⟨upd_same _ _ _, hW, .inr (Ext.of.refl _)⟩
        refine ⟨fun kk ρ env u hk hc hf hg ht hW hd hGF => ?_, ?_⟩
        · have hwg : env 4 = .bool true := hGF
          refine yieldW_on (by simp [wantB, hwg]) ?_
          have e10 : ρ (.tmp 35) = env 10 := (ht 35).trans (by kernel_rfl)
          have q10 : env 10 = .int .i64 z := hd.1 rfl
          rw [q10] at e10
          have x : Ext.of u (u.alloc (.cells #[.int .i64 z] 3)) := (Ext.of.refl _).alloc _
          exact yield_value (w' := u.alloc (.cells #[.int .i64 z] 3)) (.slice (some ⟨u.heap.size, 0, none⟩) 1 1) (by simp [go_sem, hc, hf, e10]) ⟨⟨_, upd_same _ _ _, hW.size, alloc_new' rfl⟩, hW.trans x, .inr x⟩
        refine ⟨fun kk ρ env u hk hc hf hg ht hW hd hGF => ?_, ?_⟩
        · have hwg : env 4 = .bool true := hGF
          refine yieldW_on (by simp [wantB, hwg]) ?_
          have p0 : ρ (.tmp 3) = .pointer (some ⟨g, 0, none⟩) := (ht 3).trans (by kernel_rfl)
          exact yield_value (w' := u) (.pointer (some ⟨g, 1, none⟩)) (by simp [go_sem, hc, hf, p0]) ⟨upd_same _ _ _, hW, .inr (Ext.of.refl _)⟩
        refine ⟨fun kk ρ env u hk hc hf hg ht hW hd hGF => ?_, ?_⟩
        · have hwg : env 4 = .bool true := hGF
          refine yieldW_on (by simp [wantB, hwg]) ?_
          have e12 : ρ (.tmp 37) = env 12 := (ht 37).trans (by kernel_rfl)
          have q12 : env 12 = .pointer (some ⟨g, 1, none⟩) := hd.1 rfl
          rw [q12] at e12
          have y0 := hW.cell b1
          exact yield_value (w' := u) (.slice (some ad) m d) (by simp [go_sem, hc, hf, e12, y0]) ⟨upd_same _ _ _, hW, .inr (Ext.of.refl _)⟩
        refine ⟨fun kk ρ env u hk hc hf hg ht hW hd hGF => ?_, ?_⟩
        · have hwg : env 4 = .bool true := hGF
          refine yieldW_on (by simp [wantB, hwg]) ?_
          have e11 : ρ (.tmp 36) = env 11 := (ht 36).trans (by kernel_rfl)
          have e13 : ρ (.tmp 38) = env 13 := (ht 38).trans (by kernel_rfl)
          obtain ⟨b, q11, h1, h2⟩ : ∃ b, env 11 = .slice (some ⟨b, 0, none⟩) 1 1 ∧ (w4.heap.size ≤ b ∧ u.heap[b]? = some (.cells #[.int .i64 z] 3 (0, 0))) := hd.1 rfl
          have q13 : env 13 = .slice (some ad) m d := hd.2.1 rfl
          rw [q11] at e11
          rw [q13] at e13
          have s3 := s2.ext hW
          have hz4 := hW.size
          have O0 : u.ownsRow w4.heap.size 3 1 (.slice (some ⟨b, 0, none⟩) 1 1) 1 [.int .i64 z] := ⟨rfl, .inr ⟨b, 1, _, rfl, h1, h2, Nat.le_refl _, by decide, rfl, rfl⟩⟩
          refine yield_append (.tmp 36) (.tmp 38) eltInt rfl w4.heap.size _ 1 [.int .i64 z] e11 O0 (some ad) m d (ints zs) e13 s3.see (s3.of_none (by decide)) s3.len (ints_oneCell _ _) (by unfold maxLen; omega) (by omega) hz4 ?_
          intro v' w' O G3 _
          obtain ⟨E, e1, rfl, _⟩ := own_form O
          rw [show [Value.int .i64 z] ++ ints zs = ints (z :: zs) from rfl] at O
          exact ⟨⟨E, e1, upd_same _ _ _, O⟩, Ext.of_below (hW.below.grown G3 hW.size (fun k e => (O0.lt k e).1)), .inl rfl⟩
        refine ⟨fun kk ρ env u hk hc hf hg ht hW hd hGF => ?_, ?_⟩
        · have hwg : env 4 = .bool true := hGF
          refine yieldW_on (by simp [wantB, hwg]) ?_
          have e6 : ρ (.tmp 31) = env 6 := (ht 31).trans (by kernel_rfl)
          have e14 : ρ (.tmp 39) = env 14 := (ht 39).trans (by kernel_rfl)
          have q6 : env 6 = .slice C n c := hd.1 rfl
          obtain ⟨E, e1, q14, h⟩ : ∃ E e1, env 14 = .slice E (1 + m) e1 ∧ u.ownsRow w4.heap.size 3 1 (.slice E (1 + m) e1) (1 + m) (ints (z :: zs)) := hd.2.1 rfl
          rw [q6] at e6
          rw [q14] at e14
          exact yield_value (w' := u) (ibA C n c E (1 + m) e1) (by simp [go_sem, hc, hf, e6, e14]) ⟨⟨E, e1, upd_same _ _ _, h⟩, hW, .inr (Ext.of.refl _)⟩
        refine ⟨fun kk ρ env u hk hc hf hg ht hW hd hGF => ?_, ?_⟩
        · have hwg : env 4 = .bool true := hGF
          refine yieldW_on (by simp [wantB, hwg]) ?_
          have e15 : ρ (.tmp 40) = env 15 := (ht 40).trans (by kernel_rfl)
          obtain ⟨E, e1, q15, h⟩ : ∃ E e1, env 15 = ibA C n c E (1 + m) e1 ∧ u.ownsRow w4.heap.size 3 1 (.slice E (1 + m) e1) (1 + m) (ints (z :: zs)) := hd.1 rfl
          rw [q15] at e15
          have C1 := ibI_any C n c xs E (1 + m) e1 (z :: zs) u (s1.ext hW) HOK.out (own_sl h)
          rw [ib_twice xs HZ.out] at C1
          refine yield_call 8 #[ibA C n c E (1 + m) e1] (by simp [go_sem, hc, hf, e15]) ?_
          refine C1.mono ?_
          rintro e w' ⟨rfl, x⟩
          exact ⟨_, rfl, upd_same _ _ _, hW.trans x, .inr x⟩
        refine ⟨fun kk ρ env u hk hc hf hg ht hW hd hGF => ?_, ?_⟩
        · have hwg : env 4 = .bool true := hGF
          refine yieldW_on (by simp [wantB, hwg]) ?_
          have e16 : ρ (.tmp 41) = env 16 := (ht 41).trans (by kernel_rfl)
          have q16 : env 16 = .bool false := hd.1 rfl
          rw [q16] at e16
          exact yield_value (w' := u) (.bool true) (by simp [go_sem, hc, hf, e16]) ⟨upd_same _ _ _, hW, .inr (Ext.of.refl _)⟩
        refine ⟨fun kk ρ env u hk hc hf hg ht hW hd hGF => ?_, ?_⟩
        · refine yieldW_on rfl ?_
          have e4 : ρ (.tmp 29) = env 4 := (ht 29).trans (by kernel_rfl)
          have e17 : ρ (.tmp 42) = env 17 := (ht 42).trans (by kernel_rfl)
          have q4 : env 4 = .bool true := hd.1 rfl
          have q17 : env 17 = .bool true := hd.2.1 rfl
          rw [q4] at e4
          rw [q17] at e17
          exact yield_value (w' := u) (.bool true) (by simp [go_sem, hc, hf, e4, e17]) ⟨upd_same _ _ _, hW, .inr (Ext.of.refl _)⟩
        refine ⟨fun kk ρ env u hk hc hf hg ht hW hd hGF => ?_, ?_⟩
        · refine yieldW_on rfl ?_
          have e18 : ρ (.tmp 43) = env 18 := (ht 43).trans (by kernel_rfl)
          have q18 : env 18 = .bool true := hd.1 rfl
          exact yield_assign _ rfl ⟨(upd_same _ _ _).trans (e18.trans q18), hW, .inr (Ext.of.refl _)⟩
        trivial
      intro env w5 hW hF
      have ev : env 19 = .bool true := hF 19 (of_decide_eq_true (by kernel_rfl)) (fun i hi => by match i with | 0 | 1 | 2 | 3 | 4 | 5 | 6 | 7 | 8 | 9 | 10 | 11 | 12 | 13 | 14 | 15 | 16 | 17 | 18 | 19 => rfl | _ + 20 => simp at hi; omega)
      have T5 := below_next T4 hW.below
      clear hF
      have hrng : List.range 44 = [0, 1, 2, 3, 4, 5, 6, 7, 8, 9, 10, 11, 12, 13, 14, 15, 16, 17, 18, 19, 20, 21, 22, 23, 24, 25, 26, 27, 28, 29, 30, 31, 32, 33, 34, 35, 36, 37, 38, 39, 40, 41, 42, 43] := rfl
      unfold after
      simp only [List.size_toArray, List.length_cons, List.length_nil, Nat.reduceAdd, hrng, List.map_cons, List.map_nil]
      simp [idxOf, List.findIdx?, List.findIdx?.go, ev]
      go_wp2_with fail
      go_ret
      exact ⟨rfl, T5⟩
    · by_cases hvt : V = true
      · subst hvt
        obtain rfl : m = 0 := by rcases Nat.eq_zero_or_pos m with h | h; exact h; exact absurd ⟨rfl, h⟩ hgo
        clear hgo o1 o2
        go_wp2_with (go_at_call 11; refine (alive_any _).mono ?_; rintro e w' ⟨rfl, rfl⟩)
        go_ret
        exact ⟨rfl, T4⟩
      · have hvf : V = false := by simpa using hvt
        subst hvf
        clear hgo o1 o2 hvt
        go_wp2_with (go_at_call 11; refine (alive_any _).mono ?_; rintro e w' ⟨rfl, rfl⟩)
        go_ret
        exact ⟨rfl, T4⟩
end Go.Proofs.Ytoagpfdhbcgdcaa.fnInboxValid
