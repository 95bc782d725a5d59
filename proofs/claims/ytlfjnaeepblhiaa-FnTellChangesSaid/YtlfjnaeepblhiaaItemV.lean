/- The contracts of ItemValid, the program's and the reference's. -/
import Derived.Test.YtlfjnaeepblhiaaItem
import Derived.Test.YtlfjnaeepblhiaaTextV
import Derived.Test.YtlfjnaeepblhiaaDateS
namespace Go.Proofs.Ytlfjnaeepblhiaa
open Go.RowKit
set_option linter.unusedVariables false
set_option linter.unusedSimpArgs false
def someB (b : ByteArray) : Bool := !b.toList.isEmpty
/-- What ItemValid returns. -/
@[irreducible] def imV (a b s : ByteArray) (d : Int) : Bool := wordV a && (textV b && (someB b && (textV s && dayV d)))
section
variable {a b s : ByteArray} {d : Int}
theorem imV_no1 (h : wordV a = false) : imV a b s d = false := by unfold imV; rw [h]; rfl
theorem imV_no2 (h : textV b = false) : imV a b s d = false := by unfold imV; rw [h]; simp
theorem imV_no3 (h : someB b = false) : imV a b s d = false := by unfold imV; rw [h]; simp
theorem imV_no4 (h : textV s = false) : imV a b s d = false := by unfold imV; rw [h]; simp
theorem imV_no5 (h : dayV d = false) : imV a b s d = false := by unfold imV; rw [h]; simp
theorem imV_yes (h1 : wordV a = true) (h2 : textV b = true) (h3 : someB b = true) (h4 : textV s = true) (h5 : dayV d = true) : imV a b s d = true := by unfold imV; rw [h1, h2, h3, h4, h5]; rfl
theorem imV_parts (h : imV a b s d = true) : wordV a = true ∧ textV b = true ∧ someB b = true ∧ textV s = true ∧ dayV d = true := by unfold imV at h; simpa [and_assoc] using h
end
theorem dayT_some {d : Int} {t : ByteArray} (h : DayT d t) : someB t = dayV d := by
  cases e : dayV d with
  | true =>
    have := h.1 e
    unfold someB
    rw [ByteArray.toList_eq]
    have hl : t.data.toList.length = t.size := by simp
    cases hx : t.data.toList with
    | nil => rw [hx] at hl; simp only [List.length_nil] at hl; omega
    | cons x xs => rfl
  | false => rw [h.2.1 e]; unfold someB; rw [ByteArray.toList_eq]; rfl
set_option maxHeartbeats 1000000 in
theorem imVI_any (a b s : ByteArray) (d : Int) (w : World) (ha : a.size ≤ 9223372036854775807) (hb : b.size ≤ 9223372036854775807) (hs : s.size ≤ 9223372036854775807) : Calls Try.prog 70 #[imA a b s d] w fun e' w' => e' = .returned (.bool (imV a b s d)) ∧ Ext.of w w' := by
  have hE : Ext.of w (w.alloc (.cells #[.string a, .string b, .string s, .int .i64 d] 57)) := (Ext.of.refl _).alloc _
  have hc : (w.alloc (.cells #[.string a, .string b, .string s, .int .i64 d] 57)).heap[w.heap.size]? = some (.cells #[.string a, .string b, .string s, .int .i64 d] 57 (0, 0)) := alloc_new' rfl
  have d0 := cell_of_row _ w.heap.size 0 _ _ _ hc
  have d1 := cell_of_row _ w.heap.size 1 _ _ _ hc
  have d2 := cell_of_row _ w.heap.size 2 _ _ _ hc
  have d3 := cell_of_row _ w.heap.size 3 _ _ _ hc
  have CA := fun W => wordI_any a W ha
  have CB := fun W => textI_any b W hb
  have CS := fun W => textI_any s W hs
  have CD := fun W => dateI_any d W
  clear ha hb hs hc
  go_enter Try.func70, Try.ntmps70
  go_wp2_with fail
  cases x1 : wordV a with
  | false =>
    have R := hid_ (imV_no1 (b := b) (s := s) (d := d) x1)
    rw [x1] at CA
    refine (CA _).mono ?_
    rintro e' w1 ⟨rfl, rfl⟩
    go_wp2_with fail
    go_ret
    exact ⟨ret_bool R.out.symm, hE⟩
  | true =>
    have X1 := hid x1
    rw [x1] at CA
    clear x1
    refine (CA _).mono ?_
    rintro e' w1 ⟨rfl, rfl⟩
    go_wp2_with fail
    cases x2 : textV b with
    | false =>
      have R := hid_ (imV_no2 (a := a) (s := s) (d := d) x2)
      rw [x2] at CB
      refine (CB _).mono ?_
      rintro e' w1 ⟨rfl, rfl⟩
      go_wp2_with fail
      go_ret
      exact ⟨ret_bool R.out.symm, hE⟩
    | true =>
      have X2 := hid x2
      rw [x2] at CB
      clear x2
      cases x3 : b.toList.isEmpty with
      | true =>
        have R := hid_ (imV_no3 (a := a) (b := b) (s := s) (d := d) (by unfold someB; rw [x3]; rfl))
        refine (CB _).mono ?_
        rintro e' w1 ⟨rfl, rfl⟩
        go_wp2_with fail
        go_ret
        exact ⟨ret_bool R.out.symm, hE⟩
      | false =>
        have X3 := hid (show someB b = true by unfold someB; rw [x3]; rfl)
        refine (CB _).mono ?_
        rintro e' w1 ⟨rfl, rfl⟩
        go_wp2_with fail
        cases x4 : textV s with
        | false =>
          have R := hid_ (imV_no4 (a := a) (b := b) (d := d) x4)
          rw [x4] at CS
          refine (CS _).mono ?_
          rintro e' w1 ⟨rfl, rfl⟩
          go_wp2_with fail
          go_ret
          exact ⟨ret_bool R.out.symm, hE⟩
        | true =>
          have X4 := hid x4
          rw [x4] at CS
          clear x4
          refine (CS _).mono ?_
          rintro e' w1 ⟨rfl, rfl⟩
          go_wp2_with fail
          refine (CD _).mono ?_
          rintro e' w1 ⟨t, rfl, hT, y1⟩
          have hE := hE.trans y1
          have ht := dayT_some hT
          cases x5 : t.toList.isEmpty with
          | true =>
            have R := hid_ (imV_no5 (a := a) (b := b) (s := s) (d := d) (by rw [← ht]; unfold someB; rw [x5]; rfl))
            clear hT ht
            go_wp2_with fail
            go_ret
            exact ⟨ret_bool R.out.symm, hE⟩
          | false =>
            have R := hid_ (imV_yes X1.out X2.out X3.out X4.out (show dayV d = true by rw [← ht]; unfold someB; rw [x5]; rfl))
            clear hT ht
            go_wp2_with fail
            go_ret
            exact ⟨ret_bool R.out.symm, hE⟩
set_option maxHeartbeats 1000000 in
theorem imVS_any (a b s : ByteArray) (d : Int) (w : World) (ha : a.size ≤ 9223372036854775807) (hb : b.size ≤ 9223372036854775807) (hs : s.size ≤ 9223372036854775807) : Calls Try.prog 84 #[imA a b s d] w fun e' w' => e' = .returned (.bool (imV a b s d)) ∧ Ext.of w w' := by
  have hE : Ext.of w (w.alloc (.cells #[.string a, .string b, .string s, .int .i64 d] 57)) := (Ext.of.refl _).alloc _
  have hc : (w.alloc (.cells #[.string a, .string b, .string s, .int .i64 d] 57)).heap[w.heap.size]? = some (.cells #[.string a, .string b, .string s, .int .i64 d] 57 (0, 0)) := alloc_new' rfl
  have d0 := cell_of_row _ w.heap.size 0 _ _ _ hc
  have d1 := cell_of_row _ w.heap.size 1 _ _ _ hc
  have d2 := cell_of_row _ w.heap.size 2 _ _ _ hc
  have d3 := cell_of_row _ w.heap.size 3 _ _ _ hc
  have CA := fun W => wordS_any a W ha
  have CB := fun W => textS_any b W hb
  have CS := fun W => textS_any s W hs
  have CD := fun W => dateS_any d W
  clear ha hb hs hc
  go_enter Try.func84, Try.ntmps84
  go_wp2_with fail
  cases x1 : wordV a with
  | false =>
    have R := hid_ (imV_no1 (b := b) (s := s) (d := d) x1)
    rw [x1] at CA
    refine (CA _).mono ?_
    rintro e' w1 ⟨rfl, rfl⟩
    go_wp2_with fail
    go_ret
    exact ⟨ret_bool R.out.symm, hE⟩
  | true =>
    have X1 := hid x1
    rw [x1] at CA
    clear x1
    refine (CA _).mono ?_
    rintro e' w1 ⟨rfl, rfl⟩
    go_wp2_with fail
    cases x2 : textV b with
    | false =>
      have R := hid_ (imV_no2 (a := a) (s := s) (d := d) x2)
      rw [x2] at CB
      refine (CB _).mono ?_
      rintro e' w1 ⟨rfl, rfl⟩
      go_wp2_with fail
      go_ret
      exact ⟨ret_bool R.out.symm, hE⟩
    | true =>
      have X2 := hid x2
      rw [x2] at CB
      clear x2
      cases x3 : b.toList.isEmpty with
      | true =>
        have R := hid_ (imV_no3 (a := a) (b := b) (s := s) (d := d) (by unfold someB; rw [x3]; rfl))
        refine (CB _).mono ?_
        rintro e' w1 ⟨rfl, rfl⟩
        go_wp2_with fail
        go_ret
        exact ⟨ret_bool R.out.symm, hE⟩
      | false =>
        have X3 := hid (show someB b = true by unfold someB; rw [x3]; rfl)
        refine (CB _).mono ?_
        rintro e' w1 ⟨rfl, rfl⟩
        go_wp2_with fail
        cases x4 : textV s with
        | false =>
          have R := hid_ (imV_no4 (a := a) (b := b) (d := d) x4)
          rw [x4] at CS
          refine (CS _).mono ?_
          rintro e' w1 ⟨rfl, rfl⟩
          go_wp2_with fail
          go_ret
          exact ⟨ret_bool R.out.symm, hE⟩
        | true =>
          have X4 := hid x4
          rw [x4] at CS
          clear x4
          refine (CS _).mono ?_
          rintro e' w1 ⟨rfl, rfl⟩
          go_wp2_with fail
          refine (CD _).mono ?_
          rintro e' w1 ⟨t, rfl, hT, y1⟩
          have hE := hE.trans y1
          have ht := dayT_some hT
          cases x5 : t.toList.isEmpty with
          | true =>
            have R := hid_ (imV_no5 (a := a) (b := b) (s := s) (d := d) (by rw [← ht]; unfold someB; rw [x5]; rfl))
            clear hT ht
            go_wp2_with fail
            go_ret
            exact ⟨ret_bool R.out.symm, hE⟩
          | false =>
            have R := hid_ (imV_yes X1.out X2.out X3.out X4.out (show dayV d = true by rw [← ht]; unfold someB; rw [x5]; rfl))
            clear hT ht
            go_wp2_with fail
            go_ret
            exact ⟨ret_bool R.out.symm, hE⟩
end Go.Proofs.Ytlfjnaeepblhiaa
