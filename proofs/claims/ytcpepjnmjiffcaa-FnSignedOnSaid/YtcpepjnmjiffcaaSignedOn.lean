/- The contracts of SignedOn, the program's and the reference's. -/
import Derived.Test.YtcpepjnmjiffcaaAddTurn
import Derived.Test.YtcpepjnmjiffcaaBy
namespace Go.Proofs.Ytcpepjnmjiffcaa
open Go.RowKit
set_option linter.unusedVariables false
set_option linter.unusedSimpArgs false

/-- Whether a signature is by the key of some days ago. -/
@[irreducible] noncomputable def hitB (xs : List Tn) (s : ByteArray) (m x g day : Int) (j : Nat) : Bool :=
  (keyOnV xs (day - j)).2 && byV s m x g (keyOnV xs (day - j)).1.1 (keyOnV xs (day - j)).1.2.1 (keyOnV xs (day - j)).1.2.2
theorem hitB_eq {xs : List Tn} {s : ByteArray} {m x g day : Int} {j : Nat} {a b e : Int} {p : Bool} (h : keyOnV xs (day - j) = ((a, b, e), p)) : hitB xs s m x g day j = (p && byV s m x g a b e) := by unfold hitB; rw [h]
@[irreducible] noncomputable def onV (xs : List Tn) (s : ByteArray) (m x g day : Int) : Bool := inB day 0 1000000000 && (tnV xs && (List.range 31).any (hitB xs s m x g day))
section
variable {xs : List Tn} {s : ByteArray} {m x g day : Int}
theorem son_no2 (h : inB day 0 1000000000 = false) : onV xs s m x g day = false := by unfold onV; simp [h]
theorem son_no3 (h : tnV xs = false) : onV xs s m x g day = false := by unfold onV; simp [h]
theorem son_yes (h : inB day 0 1000000000 = true) (h' : tnV xs = true) : onV xs s m x g day = (List.range 31).any (hitB xs s m x g day) := by unfold onV; simp [h, h']
theorem hit_right {j : Nat} (h : rightV s m x g = false) : hitB xs s m x g day j = false := by unfold hitB; rw [byV_no1 h]; simp
theorem son_no1 (h : rightV s m x g = false) : onV xs s m x g day = false := by
  unfold onV
  rw [show (List.range 31).any (hitB xs s m x g day) = false by rw [List.any_eq_false]; intro j _; rw [hit_right h]; simp]
  simp
theorem son_yes1 (_ : rightV s m x g = true) (h : inB day 0 1000000000 = true) (h' : tnV xs = true) : onV xs s m x g day = (List.range 31).any (hitB xs s m x g day) := son_yes h h'
end
set_option maxHeartbeats 2000000 in
theorem signedOnI_any (A : Option Addr) (n c : Nat) (xs : List Tn) (s : ByteArray) (m x g day : Int) (w : World) (h : Sl w A n c 4 (tns xs)) (hs : s.size ≤ 9223372036854775807) (hd0 : (Lit.int .i64 day).wf = true) :
    Calls Try.prog 32 #[.slice A n c, sigA s m x g, .int .i64 day] w fun e' w' => e' = .returned (.bool (onV xs s m x g day)) ∧ Ext.of w w' := by
  have hE0 : Ext.of w (w.alloc (.cells #[.string s, .int .i64 m, .int .i64 x, .int .i64 g] 57)) := (Ext.of.refl _).alloc _
  have hc : (w.alloc (.cells #[.string s, .int .i64 m, .int .i64 x, .int .i64 g] 57)).heap[w.heap.size]? = some (.cells #[.string s, .int .i64 m, .int .i64 x, .int .i64 g] 57 (0, 0)) := alloc_new' rfl
  have h1 := h.ext hE0
  have CT := fun W (hW : Sl W A n c 4 (tns xs)) => tnI_any A n c xs W hW
  have d0 := cell_of_row _ w.heap.size 0 _ _ _ hc
  have d1 := cell_of_row _ w.heap.size 1 _ _ _ hc
  have d2 := cell_of_row _ w.heap.size 2 _ _ _ hc
  have d3 := cell_of_row _ w.heap.size 3 _ _ _ hc
  clear hc h hd0
  cases hr : rightV s m x g with
  | false =>
    have R := hid (son_no1 (xs := xs) (day := day) hr)
    have C := fun W => rightI_any s m x g W hs
    rw [hr] at C
    clear hr CT h1
    go_enter Try.func32, Try.ntmps32
    go_wp2_with fail
    refine (C _).mono ?_
    rintro e' w1 ⟨rfl, x1⟩
    go_wp2_with fail
    go_ret
    exact ⟨ret_bool R.out.symm, hE0.trans x1⟩
  | true =>
    have C := fun W => rightI_any s m x g W hs
    rw [hr] at C
    cases hi : inB day 0 1000000000 with
    | false =>
      have R := hid (son_no2 (xs := xs) (s := s) (m := m) (x := x) (g := g) hi)
      clear hr CT h1
      go_enter Try.func32, Try.ntmps32
      go_wp2_with fail
      refine (C _).mono ?_
      rintro e' w1 ⟨rfl, x1⟩
      go_wp2_with (go_at_call 39; refine (within_any _ _ _ _).mono ?_; rintro e' w' ⟨rfl, rfl⟩)
      go_ret
      exact ⟨ret_bool R.out.symm, hE0.trans x1⟩
    | true =>
      cases hv : tnV xs with
      | false =>
        have R := hid (son_no3 (s := s) (m := m) (x := x) (g := g) (day := day) hv)
        rw [hv] at CT
        clear hr hv
        go_enter Try.func32, Try.ntmps32
        go_wp2_with fail
        refine (C _).mono ?_
        rintro e' w1 ⟨rfl, x1⟩
        go_wp2_with (go_at_call 39; refine (within_any _ _ _ _).mono ?_; rintro e' w' ⟨rfl, rfl⟩)
        refine (CT _ (h1.ext x1)).mono ?_
        rintro e' w2 ⟨rfl, x2⟩
        go_wp2_with fail
        go_ret
        exact ⟨ret_bool R.out.symm, (hE0.trans x1).trans x2⟩
      | true =>
        have hday := inB_of hi
        have hU := hid (son_yes1 (s := s) (m := m) (x := x) (g := g) (day := day) hr hi hv)
        rw [hv] at CT
        clear hr hv
        go_enter Try.func32, Try.ntmps32
        go_wp2_with fail
        refine (C _).mono ?_
        rintro e' w1 ⟨rfl, x1⟩
        go_wp2_with (go_at_call 39; refine (within_any _ _ _ _).mono ?_; rintro e' w' ⟨rfl, rfl⟩)
        refine (CT _ (h1.ext x1)).mono ?_
        rintro e' w2 ⟨rfl, x2⟩
        have hX := x1.trans x2
        clear x1 x2 C CT hi
        go_wp2_with fail
        go_loopw [7] (fun i wr => ∃ (k : Nat), k ≤ 31 ∧ i = .int .i64 k ∧ Hid (∀ j, j < k → hitB xs s m x g day j = false) ∧ Ext.of (w.alloc (.cells #[.string s, .int .i64 m, .int .i64 x, .int .i64 g] 57)) wr) (fun i _ => 31 - (intOf i).toNat)
        case atStart => exact ⟨0, by omega, rfl, fun j hj => by omega, hX⟩
        case round =>
          obtain ⟨k, hk, rfl, hno, hY⟩ := hrel
          obtain ⟨hd1, hd2⟩ := hday
          by_cases hlt : k < 31
          · obtain ⟨a, b, e, p, hV⟩ : ∃ a b e p, keyOnV xs (day - k) = ((a, b, e), p) := ⟨_, _, _, _, rfl⟩
            have CK := fun W (hW : Sl W A n c 4 (tns xs)) => keyOnI_any A n c xs (day - k) W hW
            rw [hV] at CK
            have e0 := hY.cell d0
            have e1 := hY.cell d1
            have e2 := hY.cell d2
            have e3 := hY.cell d3
            have hle : (k : Int) ≤ 30 := by omega
            have hH := hitB_eq (s := s) (m := m) (x := x) (g := g) hV
            clear d0 d1 d2 d3
            go_wp2_with fail
            refine (CK _ (h1.ext hY)).mono ?_
            rintro e' w3 ⟨rfl, x3⟩
            have f0 := more_cell ((x3.alloc (.cells #[.int .i64 a, .int .i64 b, .int .i64 e] 30)).cell e0)
            have f1 := more_cell ((x3.alloc (.cells #[.int .i64 a, .int .i64 b, .int .i64 e] 30)).cell e1)
            have f2 := more_cell ((x3.alloc (.cells #[.int .i64 a, .int .i64 b, .int .i64 e] 30)).cell e2)
            have f3 := more_cell ((x3.alloc (.cells #[.int .i64 a, .int .i64 b, .int .i64 e] 30)).cell e3)
            have q0 := f0 ⟨[], (w3.alloc (.cells #[.int .i64 a, .int .i64 b, .int .i64 e] 30)).drawn⟩
            have q1 := f1 ⟨[], (w3.alloc (.cells #[.int .i64 a, .int .i64 b, .int .i64 e] 30)).drawn⟩
            have q2 := f2 ⟨[], (w3.alloc (.cells #[.int .i64 a, .int .i64 b, .int .i64 e] 30)).drawn⟩
            have q3 := f3 ⟨[], (w3.alloc (.cells #[.int .i64 a, .int .i64 b, .int .i64 e] 30)).drawn⟩
            rw [← more_refl] at q0 q1 q2 q3
            have hZ := hY.trans (x3.alloc (.cells #[.int .i64 a, .int .i64 b, .int .i64 e] 30))
            clear f0 f1 f2 f3 e0 e1 e2 e3 x3 CK hY hV
            cases p with
            | false =>
              have N := hid (show ∀ j, j < k + 1 → hitB xs s m x g day j = false from fun j hj => by
                by_cases ej : j = k
                · rw [ej, hH]; rfl
                · exact hno.out j (by omega))
              clear hH hno
              go_wp2_with fail
              go_roundw
              case rel => exact ⟨k + 1, by omega, by go_num, N, hZ⟩
              case measure => simp [intOf]; omega
            | true =>
              cases hb : byV s m x g a b e with
              | true =>
                have R := hid (show onV xs s m x g day = true by rw [hU.out]; exact List.any_eq_true.2 ⟨k, List.mem_range.2 hlt, by rw [hH, hb]; rfl⟩)
                have CB := fun W => byI_any s m x g a b e W hs
                rw [hb] at CB
                clear hH hno hb
                go_wp2_with fail
                refine (CB _).mono ?_
                rintro e' w4 ⟨rfl, x4⟩
                go_wp2_with fail
                go_ret
                exact ⟨ret_bool R.out.symm, (hE0.trans hZ).trans x4⟩
              | false =>
                have N := hid (show ∀ j, j < k + 1 → hitB xs s m x g day j = false from fun j hj => by
                  by_cases ej : j = k
                  · rw [ej, hH, hb]; rfl
                  · exact hno.out j (by omega))
                have CB := fun W => byI_any s m x g a b e W hs
                rw [hb] at CB
                clear hH hno hb
                go_wp2_with fail
                refine (CB _).mono ?_
                rintro e' w4 ⟨rfl, x4⟩
                have hZ4 := hZ.trans x4
                go_wp2_with fail
                go_roundw
                case rel => exact ⟨k + 1, by omega, by go_num, N, hZ4⟩
                case measure => simp [intOf]; omega
          · obtain rfl : k = 31 := by omega
            have R := hid (show onV xs s m x g day = false by
              rw [hU.out, List.any_eq_false]
              intro j hj
              rw [hno.out j (List.mem_range.1 hj)]; simp)
            clear d0 d1 d2 d3
            go_wp2_with fail
            go_ret
            exact ⟨ret_bool R.out.symm, hE0.trans hY⟩
set_option maxHeartbeats 2000000 in
theorem signedOnS_any (A : Option Addr) (n c : Nat) (xs : List Tn) (s : ByteArray) (m x g day : Int) (w : World) (h : Sl w A n c 4 (tns xs)) (hs : s.size ≤ 9223372036854775807) (hd0 : (Lit.int .i64 day).wf = true) :
    Calls Try.prog 30 #[.slice A n c, sigA s m x g, .int .i64 day] w fun e' w' => e' = .returned (.bool (onV xs s m x g day)) ∧ Ext.of w w' := by
  have hE0 : Ext.of w (w.alloc (.cells #[.string s, .int .i64 m, .int .i64 x, .int .i64 g] 57)) := (Ext.of.refl _).alloc _
  have hc : (w.alloc (.cells #[.string s, .int .i64 m, .int .i64 x, .int .i64 g] 57)).heap[w.heap.size]? = some (.cells #[.string s, .int .i64 m, .int .i64 x, .int .i64 g] 57 (0, 0)) := alloc_new' rfl
  have h1 := h.ext hE0
  have CT := fun W (hW : Sl W A n c 4 (tns xs)) => tnS_any A n c xs W hW
  have d0 := cell_of_row _ w.heap.size 0 _ _ _ hc
  have d1 := cell_of_row _ w.heap.size 1 _ _ _ hc
  have d2 := cell_of_row _ w.heap.size 2 _ _ _ hc
  have d3 := cell_of_row _ w.heap.size 3 _ _ _ hc
  clear hc h hd0
  cases hv : tnV xs with
  | false =>
    have R := hid (son_no3 (s := s) (m := m) (x := x) (g := g) (day := day) hv)
    rw [hv] at CT
    clear hv
    go_enter Try.func30, Try.ntmps30
    go_wp2_with fail
    refine (CT _ h1).mono ?_
    rintro e' w2 ⟨rfl, x2⟩
    go_wp2_with fail
    go_ret
    exact ⟨ret_bool R.out.symm, hE0.trans x2⟩
  | true =>
    rw [hv] at CT
    cases hi : inB day 0 1000000000 with
    | false =>
      have R := hid (son_no2 (xs := xs) (s := s) (m := m) (x := x) (g := g) hi)
      clear hv
      go_enter Try.func30, Try.ntmps30
      go_wp2_with fail
      refine (CT _ h1).mono ?_
      rintro e' w1 ⟨rfl, x1⟩
      go_wp2_with (go_at_call 37; refine (l1In_any _ _ _ _).mono ?_; rintro e' w' ⟨rfl, rfl⟩)
      go_ret
      exact ⟨ret_bool R.out.symm, hE0.trans x1⟩
    | true =>
      · skip
        have hday := inB_of hi
        have hU := hid (son_yes (s := s) (m := m) (x := x) (g := g) (day := day) hi hv)
        clear hv
        go_enter Try.func30, Try.ntmps30
        go_wp2_with fail
        refine (CT _ h1).mono ?_
        rintro e' w2 ⟨rfl, hX⟩
        go_wp2_with (go_at_call 37; refine (l1In_any _ _ _ _).mono ?_; rintro e' w' ⟨rfl, rfl⟩)
        clear CT hi
        go_loopw [7] (fun i wr => ∃ (k : Nat), k ≤ 31 ∧ i = .int .i64 k ∧ Hid (∀ j, j < k → hitB xs s m x g day j = false) ∧ Ext.of (w.alloc (.cells #[.string s, .int .i64 m, .int .i64 x, .int .i64 g] 57)) wr) (fun i _ => 31 - (intOf i).toNat)
        case atStart => exact ⟨0, by omega, rfl, fun j hj => by omega, hX⟩
        case round =>
          obtain ⟨k, hk, rfl, hno, hY⟩ := hrel
          obtain ⟨hd1, hd2⟩ := hday
          by_cases hlt : k < 31
          · obtain ⟨a, b, e, p, hV⟩ : ∃ a b e p, keyOnV xs (day - k) = ((a, b, e), p) := ⟨_, _, _, _, rfl⟩
            have CK := fun W (hW : Sl W A n c 4 (tns xs)) => keyOnS_any A n c xs (day - k) W hW
            rw [hV] at CK
            have e0 := hY.cell d0
            have e1 := hY.cell d1
            have e2 := hY.cell d2
            have e3 := hY.cell d3
            have hle : (k : Int) ≤ 30 := by omega
            have hH := hitB_eq (s := s) (m := m) (x := x) (g := g) hV
            clear d0 d1 d2 d3
            go_wp2_with fail
            refine (CK _ (h1.ext hY)).mono ?_
            rintro e' w3 ⟨rfl, x3⟩
            have f0 := more_cell ((x3.alloc (.cells #[.int .i64 a, .int .i64 b, .int .i64 e] 30)).cell e0)
            have f1 := more_cell ((x3.alloc (.cells #[.int .i64 a, .int .i64 b, .int .i64 e] 30)).cell e1)
            have f2 := more_cell ((x3.alloc (.cells #[.int .i64 a, .int .i64 b, .int .i64 e] 30)).cell e2)
            have f3 := more_cell ((x3.alloc (.cells #[.int .i64 a, .int .i64 b, .int .i64 e] 30)).cell e3)
            have q0 := f0 ⟨[], (w3.alloc (.cells #[.int .i64 a, .int .i64 b, .int .i64 e] 30)).drawn⟩
            have q1 := f1 ⟨[], (w3.alloc (.cells #[.int .i64 a, .int .i64 b, .int .i64 e] 30)).drawn⟩
            have q2 := f2 ⟨[], (w3.alloc (.cells #[.int .i64 a, .int .i64 b, .int .i64 e] 30)).drawn⟩
            have q3 := f3 ⟨[], (w3.alloc (.cells #[.int .i64 a, .int .i64 b, .int .i64 e] 30)).drawn⟩
            rw [← more_refl] at q0 q1 q2 q3
            have hZ := hY.trans (x3.alloc (.cells #[.int .i64 a, .int .i64 b, .int .i64 e] 30))
            clear f0 f1 f2 f3 e0 e1 e2 e3 x3 CK hY hV
            cases p with
            | false =>
              have N := hid (show ∀ j, j < k + 1 → hitB xs s m x g day j = false from fun j hj => by
                by_cases ej : j = k
                · rw [ej, hH]; rfl
                · exact hno.out j (by omega))
              clear hH hno
              go_wp2_with fail
              go_roundw
              case rel => exact ⟨k + 1, by omega, by go_num, N, hZ⟩
              case measure => simp [intOf]; omega
            | true =>
              cases hb : byV s m x g a b e with
              | true =>
                have R := hid (show onV xs s m x g day = true by rw [hU.out]; exact List.any_eq_true.2 ⟨k, List.mem_range.2 hlt, by rw [hH, hb]; rfl⟩)
                have CB := fun W => byS_any s m x g a b e W hs
                rw [hb] at CB
                clear hH hno hb
                go_wp2_with fail
                refine (CB _).mono ?_
                rintro e' w4 ⟨rfl, x4⟩
                go_wp2_with fail
                go_ret
                exact ⟨ret_bool R.out.symm, (hE0.trans hZ).trans x4⟩
              | false =>
                have N := hid (show ∀ j, j < k + 1 → hitB xs s m x g day j = false from fun j hj => by
                  by_cases ej : j = k
                  · rw [ej, hH, hb]; rfl
                  · exact hno.out j (by omega))
                have CB := fun W => byS_any s m x g a b e W hs
                rw [hb] at CB
                clear hH hno hb
                go_wp2_with fail
                refine (CB _).mono ?_
                rintro e' w4 ⟨rfl, x4⟩
                have hZ4 := hZ.trans x4
                go_wp2_with fail
                go_roundw
                case rel => exact ⟨k + 1, by omega, by go_num, N, hZ4⟩
                case measure => simp [intOf]; omega
          · obtain rfl : k = 31 := by omega
            have R := hid (show onV xs s m x g day = false by
              rw [hU.out, List.any_eq_false]
              intro j hj
              rw [hno.out j (List.mem_range.1 hj)]; simp)
            clear d0 d1 d2 d3
            go_wp2_with fail
            go_ret
            exact ⟨ret_bool R.out.symm, hE0.trans hY⟩
end Go.Proofs.Ytcpepjnmjiffcaa
