/- The texts MarkV, Handle, Activity, Order, AcText, AcTextI, in one. -/
import Derived.Test.YtoagpfdhbcgdcaaDoorG1
import Derived.Laws.StructEq
import Derived.Orders
import Derived.Still
import Derived.WalkKit
section
/- The contracts of MarkText, the program's and the reference's. -/
namespace Go.Proofs.YtoagpfdhbcgdcaaDoor
open Go.RowKit
set_option linter.unusedVariables false
set_option linter.unusedSimpArgs false
/-- The digit of a number below 36. -/
@[irreducible] def dig36 (d : Nat) : ByteArray := (ByteArray.mk #[48, 49, 50, 51, 52, 53, 54, 55, 56, 57, 97, 98, 99, 100, 101, 102, 103, 104, 105, 106, 107, 108, 109, 110, 111, 112, 113, 114, 115, 116, 117, 118, 119, 120, 121, 122]).extract d (d + 1)
theorem dig36_eq (d : Nat) : (ByteArray.mk #[48, 49, 50, 51, 52, 53, 54, 55, 56, 57, 97, 98, 99, 100, 101, 102, 103, 104, 105, 106, 107, 108, 109, 110, 111, 112, 113, 114, 115, 116, 117, 118, 119, 120, 121, 122]).extract d (d + 1) = dig36 d := by unfold dig36; rfl
theorem dig36_one {d : Nat} (h : d < 36) : (dig36 d).size = 1 := by
  rw [← dig36_eq]
  simp only [ByteArray.size_extract]
  show min _ 36 - _ = 1
  omega
theorem dig36_size (d : Nat) : (dig36 d).size ≤ 36 := by
  rw [← dig36_eq]
  simp only [ByteArray.size_extract]
  show min _ 36 - _ ≤ 36
  omega
/-- The digits ahead of those that are written. -/
def mkT (n : Nat) (t : ByteArray) : ByteArray := if h : n < 36 then t else mkT (n / 36) (dig36 (n / 36 % 36) ++ t)
termination_by n
decreasing_by omega
theorem mkT_end {n : Nat} (h : n < 36) (t : ByteArray) : mkT n t = t := by rw [mkT, dif_pos h]
theorem mkT_more {n : Nat} (h : ¬ n < 36) (t : ByteArray) : mkT n t = mkT (n / 36) (dig36 (n / 36 % 36) ++ t) := by rw [mkT, dif_neg h]
/-- The text of a number. -/
@[irreducible] def markV (n : Int) : ByteArray := if 0 ≤ n ∧ n ≤ 1000000000 then mkT n.toNat (dig36 (n.toNat % 36)) else ⟨#[]⟩
theorem markV_yes {n : Int} (h : 0 ≤ n ∧ n ≤ 1000000000) : markV n = mkT n.toNat (dig36 (n.toNat % 36)) := by unfold markV; rw [if_pos h]
theorem markV_no {n : Int} (h : ¬ (0 ≤ n ∧ n ≤ 1000000000)) : markV n = ⟨#[]⟩ := by unfold markV; rw [if_neg h]
theorem ret_s {a b : ByteArray} (h : a = b) : Ending.returned (.string a) = .returned (.string b) := by rw [h]
set_option maxHeartbeats 1000000 in
theorem markS_any (n : Int) (w : World) : Calls Tryd.prog 84 #[.int .i64 n] w fun e w' => e = .returned (.string (markV n)) ∧ w = w' := by
  by_cases hn : 0 ≤ n ∧ n ≤ 1000000000
  · have hV := hid (markV_yes hn)
    obtain ⟨k, rfl⟩ := Int.eq_ofNat_of_zero_le hn.1
    have x1 : inB (k : Int) 0 1000000000 = true := inB_yes hn
    have hk : k ≤ 1000000000 := by omega
    have e1 := Int.tmod_eq_emod_of_nonneg (a := (k : Int)) (b := 36) (by omega)
    have h0 : 0 ≤ (k : Int) % 36 := by omega
    have h1 : (k : Int) % 36 < 36 := by omega
    go_enter Tryd.func84, Tryd.ntmps84
    go_wp2_with (go_at_call 78; refine (l1In_any _ _ _ _).mono ?_; rintro e' w' ⟨rfl, rfl⟩)
    clear e1 h0 h1
    go_loopw [0, 4] (fun v s wr => ∃ (j : Nat) (t : ByteArray), v = .int .i64 j ∧ t.size + j ≤ k + 1 ∧ s = .string t ∧ Hid (mkT j t = markV k) ∧ wr = w) (fun v _ _ => (intOf v).toNat)
    case atStart => exact ⟨k, _, rfl, by rw [dig36_eq, dig36_one (by omega)]; omega, rfl, by show _ = _; rw [hV.out, dig36_eq]; rfl, rfl⟩
    case round =>
      obtain ⟨j, t, rfl, hj, rfl, ht, rfl⟩ := hrel
      by_cases hl : j < 36
      · have R := hid ((mkT_end hl t).symm.trans ht.out)
        clear ht hV
        go_wp2
        go_ret
        exact ⟨ret_s R.out, rfl⟩
      · have R := hid ((mkT_more hl t).symm.trans ht.out)
        have e2 := Int.tdiv_eq_ediv_of_nonneg (a := (j : Int)) (b := 36) (by omega)
        have hd : ((j : Int) / 36) = ((j / 36 : Nat) : Int) := by omega
        have e1 := Int.tmod_eq_emod_of_nonneg (a := ((j / 36 : Nat) : Int)) (b := 36) (by omega)
        have e3 : ((j / 36 : Nat) : Int) % 36 = ((j / 36 % 36 : Nat) : Int) := by omega
        have hb : j / 36 ≤ 1000000000 := by omega
        have hb2 : j / 36 % 36 < 36 := by omega
        have hlt : 1 + j / 36 ≤ j := by omega
        clear ht hV
        rw [hd] at e2
        rw [e3] at e1
        clear hd e3
        have hsz := dig36_one hb2
        generalize j / 36 = q at *
        have hs2 : (dig36 (q % 36) ++ t).size = 1 + t.size := by rw [ByteArray.size_append, hsz]
        have H := hid (And.intro hs2 hsz)
        have hmin : min (q % 36 + 1) 36 - q % 36 = 1 := by omega
        clear hs2 hsz
        go_wp2
        go_roundw
        case rel => exact ⟨q, _, rfl, by rw [dig36_eq, H.out.1]; omega, rfl, by rw [dig36_eq]; exact R, trivial⟩
        case measure => simp [intOf]; omega
  · have hV := hid (markV_no hn)
    have x1 : inB n 0 1000000000 = false := inB_no hn
    go_enter Tryd.func84, Tryd.ntmps84
    go_wp2_with (go_at_call 78; refine (l1In_any _ _ _ _).mono ?_; rintro e' w' ⟨rfl, rfl⟩)
    go_ret
    exact ⟨ret_s hV.out.symm, rfl⟩
theorem mkT_size : ∀ (n : Nat) (t : ByteArray), (mkT n t).size ≤ t.size + n := by
  intro n
  induction n using Nat.strongRecOn with
  | _ n ih =>
    intro t
    by_cases h : n < 36
    · rw [mkT_end h]; omega
    · rw [mkT_more h]
      have h1 := ih (n / 36) (by omega) (dig36 (n / 36 % 36) ++ t)
      rw [ByteArray.size_append, dig36_one (by omega)] at h1
      omega
theorem markV_size (n : Int) : (markV n).size ≤ 1000000001 := by
  by_cases h : 0 ≤ n ∧ n ≤ 1000000000
  · rw [markV_yes h]
    have h1 := mkT_size n.toNat (dig36 (n.toNat % 36))
    rw [dig36_one (by omega)] at h1
    omega
  · rw [markV_no h]; exact Nat.zero_le _
end Go.Proofs.YtoagpfdhbcgdcaaDoor
end
section
/- The contracts of handles: whether one is valid, which of two stands first, and the laws' copies of them. -/
namespace Go.Proofs.YtoagpfdhbcgdcaaDoor
open Go.RowKit
set_option linter.unusedVariables false

abbrev hdA (n h : ByteArray) : Value := .agg #[.string n, .string h]
@[irreducible] def hvalV (n h : ByteArray) : Bool := wordV n && wordV h
theorem hval_no {n h : ByteArray} (e : wordV n = false) : hvalV n h = false := by unfold hvalV; simp [e]
theorem hval_yes {n h : ByteArray} (e : wordV n = true) : hvalV n h = wordV h := by unfold hvalV; simp [e]
theorem hvalI_any (n h : ByteArray) (w : World) (hn : n.size ≤ 9223372036854775807) (hh : h.size ≤ 9223372036854775807) : Calls Tryd.prog 68 #[hdA n h] w fun e' w' => e' = .returned (.bool (hvalV n h)) ∧ Ext.of w w' := by
  cases e : wordV n with
  | false =>
    have R := hid_ (hval_no (h := h) e)
    go_enter Tryd.func68, Tryd.ntmps68
    go_wp2_with (go_at_call 47; refine (wordI_any _ _ (by assumption)).mono ?_; rintro e' w' ⟨rfl, rfl⟩)
    go_ret
    exact ⟨ret_bool R.out.symm, (Ext.of.refl _).alloc _⟩
  | true =>
    have R := hid_ (hval_yes (h := h) e)
    go_enter Tryd.func68, Tryd.ntmps68
    go_wp2_with (go_at_call 47; refine (wordI_any _ _ (by assumption)).mono ?_; rintro e' w' ⟨rfl, rfl⟩)
    go_ret
    exact ⟨ret_bool R.out.symm, (Ext.of.refl _).alloc _⟩
theorem hvalS_any (n h : ByteArray) (w : World) (hn : n.size ≤ 9223372036854775807) (hh : h.size ≤ 9223372036854775807) : Calls Tryd.prog 80 #[hdA n h] w fun e' w' => e' = .returned (.bool (hvalV n h)) ∧ Ext.of w w' := by
  cases e : wordV n with
  | false =>
    have R := hid_ (hval_no (h := h) e)
    go_enter Tryd.func80, Tryd.ntmps80
    go_wp2_with (go_at_call 81; refine (wordS_any _ _ (by assumption)).mono ?_; rintro e' w' ⟨rfl, rfl⟩)
    go_ret
    exact ⟨ret_bool R.out.symm, (Ext.of.refl _).alloc _⟩
  | true =>
    have R := hid_ (hval_yes (h := h) e)
    go_enter Tryd.func80, Tryd.ntmps80
    go_wp2_with (go_at_call 81; refine (wordS_any _ _ (by assumption)).mono ?_; rintro e' w' ⟨rfl, rfl⟩)
    go_ret
    exact ⟨ret_bool R.out.symm, (Ext.of.refl _).alloc _⟩
/-- Which handle stands first. -/
@[irreducible] def hbefV (n h m k : ByteArray) : Bool := Op.bytesLess h.toList k.toList || ((h.toList == k.toList) && Op.bytesLess n.toList m.toList)
theorem less_irrefl : ∀ l : List UInt8, Op.bytesLess l l = false := by
  intro l; induction l with
  | nil => rfl
  | cons a l ih => simp [Op.bytesLess, ih]
section
variable {n h m k : ByteArray}
theorem hbef_ne (e : (h.toList == k.toList) = false) : hbefV n h m k = Op.bytesLess h.toList k.toList := by unfold hbefV; simp [e]
theorem hbef_eq (e : (h.toList == k.toList) = true) : hbefV n h m k = Op.bytesLess n.toList m.toList := by
  have e2 := e
  rw [beq_iff_eq] at e2
  unfold hbefV; rw [e, e2, less_irrefl]; simp
theorem hbef_lt (e : Op.bytesLess h.toList k.toList = true) : hbefV n h m k = true := by unfold hbefV; simp [e]
end
theorem hbefI_any (n h m k : ByteArray) (w : World) : Calls Tryd.prog 74 #[hdA n h, hdA m k] w fun e' w' => e' = .returned (.bool (hbefV n h m k)) ∧ Ext.of w w' := by
  cases e : (h.toList == k.toList) with
  | false =>
    have R := hid_ (hbef_ne (n := n) (m := m) e)
    have e' : (!(h.toList == k.toList)) = true := by simp [e]
    go_enter Tryd.func74, Tryd.ntmps74
    go_wp2
    go_ret
    exact ⟨ret_bool R.out.symm, ((Ext.of.refl _).alloc _).alloc _⟩
  | true =>
    have R := hid_ (hbef_eq (n := n) (m := m) e)
    have e' : (!(h.toList == k.toList)) = false := by simp [e]
    go_enter Tryd.func74, Tryd.ntmps74
    go_wp2
    go_ret
    exact ⟨ret_bool R.out.symm, ((Ext.of.refl _).alloc _).alloc _⟩
theorem hbefS_any (n h m k : ByteArray) (w : World) : Calls Tryd.prog 86 #[hdA n h, hdA m k] w fun e' w' => e' = .returned (.bool (hbefV n h m k)) ∧ Ext.of w w' := by
  cases f : Op.bytesLess h.toList k.toList with
  | true =>
    have R := hid_ (hbef_lt (n := n) (m := m) f)
    go_enter Tryd.func86, Tryd.ntmps86
    go_wp2
    go_ret
    exact ⟨ret_bool R.out.symm, ((Ext.of.refl _).alloc _).alloc _⟩
  | false =>
    cases e : (h.toList == k.toList) with
    | false =>
      have R := hid_ ((hbef_ne (n := n) (m := m) e).trans f)
      go_enter Tryd.func86, Tryd.ntmps86
      go_wp2
      go_ret
      exact ⟨ret_bool R.out.symm, ((Ext.of.refl _).alloc _).alloc _⟩
    | true =>
      have R := hid_ (hbef_eq (n := n) (m := m) e)
      go_enter Tryd.func86, Tryd.ntmps86
      go_wp2
      go_ret
      exact ⟨ret_bool R.out.symm, ((Ext.of.refl _).alloc _).alloc _⟩
theorem bytes_eq {a b : ByteArray} : (a.toList == b.toList) = decide (a = b) := by
  rw [Bool.eq_iff_iff, beq_iff_eq, decide_eq_true_iff, ByteArray.toList_eq, ByteArray.toList_eq]
  exact ⟨fun h => ByteArray.ext (Array.toList_inj.mp h), fun h => by rw [h]⟩
@[irreducible] def hdQ (n h m k : ByteArray) : Bool := decide ((n, h) = (m, k))
theorem hdQ_yes (n h : ByteArray) : hdQ n h n h = true := by unfold hdQ; simp
theorem hdQ_no {n h m k : ByteArray} (e : ¬ (n, h) = (m, k)) : hdQ n h m k = false := by unfold hdQ; exact decide_eq_false e
theorem eqHandle_any (n h m k : ByteArray) (w : World) : Calls Tryd.prog 88 #[hdA n h, hdA m k] w fun e' w' => e' = .returned (.bool (hdQ n h m k)) ∧ Ext.of w w' := by
  have D : hdQ n h m k = ((n.toList == m.toList) && (h.toList == k.toList)) := by
    unfold hdQ
    rw [bytes_eq, bytes_eq, Bool.eq_iff_iff]; simp
  rw [D]
  clear D
  cases e : (n.toList == m.toList) <;> cases f : (h.toList == k.toList)
  all_goals
    have e' := congrArg (!·) e
    have f' := congrArg (!·) f
    simp only [Bool.not_false, Bool.not_true] at e' f'
    go_enter Tryd.func88, Tryd.ntmps88
    go_wp2
    go_ret
    exact ⟨rfl, ((Ext.of.refl _).alloc _).alloc _⟩
theorem neqHandle (n h m k : ByteArray) (W : World) : (binOp .neq 28 (hdA n h) (hdA m k)).run Tryd.prog W = .ok (.bool (!hdQ n h m k)) W := by
  have D : hdQ n h m k = ((n.toList == m.toList) && (h.toList == k.toList)) := by
    unfold hdQ
    rw [bytes_eq, bytes_eq, Bool.eq_iff_iff]; simp
  rw [D]
  rw [run_neq_struct, run_equalIn_agg _ _ _ _ _ (by kernel_rfl) (by kernel_rfl)]
  by_cases e : n.toList = m.toList <;> by_cases f : h.toList = k.toList <;> simp [go_sem, Op.eqFields, e, f]
theorem toHandle_any (n h : ByteArray) (w : World) : Calls Tryd.prog 55 #[hdA n h] w fun e' w' => e' = .returned (hdA n h) ∧ Ext.of w w' := by
  go_enter Tryd.func55, Tryd.ntmps55
  go_wp2
  refine bodyPost_ret (v := hdA n h) (by simp [results, Tryd.results55, go_sem]) rfl ⟨rfl, (((Ext.of.refl _).alloc _).alloc _).alloc _⟩
theorem szHandle_any (n h : ByteArray) (k : Int) (h0 : 0 ≤ k) (h1 : k ≤ 1048576) (w : World) (hn : n.size ≤ 9223372036854775807) (hh : h.size ≤ 9223372036854775807) : Calls Tryd.prog 52 #[hdA n h, .int .i64 k] w fun e' w' => ∃ r : Int, e' = .returned (.int .i64 r) ∧ -1 ≤ r ∧ r ≤ k ∧ Ext.of w w' := by
  by_cases a : k - n.size < 0
  · go_enter Tryd.func52, Tryd.ntmps52
    go_wp2
    go_ret
    exact ⟨_, rfl, by omega, by omega, (Ext.of.refl _).alloc _⟩
  · have a' : (n.size : Int) ≤ k := by omega
    by_cases b : k - n.size - h.size < 0
    · go_enter Tryd.func52, Tryd.ntmps52
      go_wp2
      go_ret
      exact ⟨_, rfl, by omega, by omega, (Ext.of.refl _).alloc _⟩
    · go_enter Tryd.func52, Tryd.ntmps52
      go_wp2
      go_ret
      exact ⟨_, rfl, by omega, by omega, (Ext.of.refl _).alloc _⟩
def hdOk (xs : List (ByteArray × ByteArray)) : Prop := ∀ x ∈ xs, x.1.size ≤ 9223372036854775807 ∧ x.2.size ≤ 9223372036854775807
end Go.Proofs.YtoagpfdhbcgdcaaDoor
end
section
/- The contracts of activities: whether one is valid, and the laws' copies of them. -/
namespace Go.Proofs.YtoagpfdhbcgdcaaDoor
open Go.RowKit
set_option linter.unusedVariables false
set_option linter.unusedSimpArgs false

abbrev acA (k m : Int) (a b s : ByteArray) : Value := .agg #[.int .i64 k, .int .i64 m, .string a, .string b, .string s]
@[irreducible] def acQ (k m : Int) (a b s : ByteArray) (k' m' : Int) (a' b' s' : ByteArray) : Bool := decide ((k, m, a, b, s) = (k', m', a', b', s'))
theorem acQ_yes (k m : Int) (a b s : ByteArray) : acQ k m a b s k m a b s = true := by unfold acQ; simp
theorem acQ_no {k m k' m' : Int} {a b s a' b' s' : ByteArray} (e : ¬ (k, m, a, b, s) = (k', m', a', b', s')) : acQ k m a b s k' m' a' b' s' = false := by unfold acQ; exact decide_eq_false e
theorem acQ_eq (k m : Int) (a b s : ByteArray) (k' m' : Int) (a' b' s' : ByteArray) : acQ k m a b s k' m' a' b' s' = ((k == k') && ((m == m') && (hdQ a b a' b' && (s.toList == s'.toList)))) := by
  rw [bytes_eq]; unfold acQ hdQ; rw [Bool.eq_iff_iff]; simp [and_assoc]
/-- Whether an activity is valid. -/
@[irreducible] def avalV (k m : Int) (a b s : ByteArray) : Bool := inB k 0 5 && (inB m 0 1000000000 && (hvalV a b && wordV s))
section
variable {k m : Int} {a b s : ByteArray}
theorem aval_no1 (h : inB k 0 5 = false) : avalV k m a b s = false := by unfold avalV; rw [h]; rfl
theorem aval_no2 (h : inB m 0 1000000000 = false) : avalV k m a b s = false := by unfold avalV; rw [h]; simp
theorem aval_no3 (h : hvalV a b = false) : avalV k m a b s = false := by unfold avalV; rw [h]; simp
theorem aval_yes (h1 : inB k 0 5 = true) (h2 : inB m 0 1000000000 = true) (h3 : hvalV a b = true) : avalV k m a b s = wordV s := by unfold avalV; rw [h1, h2, h3]; rfl
end
set_option maxHeartbeats 1000000 in
theorem avalI_any (k m : Int) (a b s : ByteArray) (w : World) (ha : a.size ≤ 9223372036854775807) (hb : b.size ≤ 9223372036854775807) (hs : s.size ≤ 9223372036854775807) : Calls Tryd.prog 30 #[acA k m a b s] w fun e' w' => e' = .returned (.bool (avalV k m a b s)) ∧ Ext.of w w' := by
  have hE : Ext.of w (w.alloc (.cells #[.int .i64 k, .int .i64 m, .string a, .string b, .string s] 30)) := (Ext.of.refl _).alloc _
  have hc : (w.alloc (.cells #[.int .i64 k, .int .i64 m, .string a, .string b, .string s] 30)).heap[w.heap.size]? = some (.cells #[.int .i64 k, .int .i64 m, .string a, .string b, .string s] 30 (0, 0)) := alloc_new' rfl
  have d4 := cell_of_row _ w.heap.size 4 _ _ _ hc
  have C := fun W => hvalI_any a b W ha hb
  have CW := fun W => wordI_any s W hs
  clear ha hb hs hc
  go_enter Tryd.func30, Tryd.ntmps30
  cases x1 : inB k 0 5 with
  | false =>
    have R := hid_ (aval_no1 (m := m) (a := a) (b := b) (s := s) x1)
    go_wp2_with (go_at_call 49; refine (within_any _ _ _ _).mono ?_; rintro e' w' ⟨rfl, rfl⟩)
    go_ret
    exact ⟨ret_bool R.out.symm, hE⟩
  | true =>
    cases x2 : inB m 0 1000000000 with
    | false =>
      have R := hid_ (aval_no2 (k := k) (a := a) (b := b) (s := s) x2)
      go_wp2_with (go_at_call 49; refine (within_any _ _ _ _).mono ?_; rintro e' w' ⟨rfl, rfl⟩)
      go_ret
      exact ⟨ret_bool R.out.symm, hE⟩
    | true =>
      cases x3 : hvalV a b with
      | false =>
        have R := hid_ (aval_no3 (k := k) (m := m) (s := s) x3)
        rw [x3] at C
        clear x3
        go_wp2_with (go_at_call 49; refine (within_any _ _ _ _).mono ?_; rintro e' w' ⟨rfl, rfl⟩)
        refine (C _).mono ?_
        rintro e' w1 ⟨rfl, y1⟩
        go_wp2_with fail
        go_ret
        exact ⟨ret_bool R.out.symm, hE.trans y1⟩
      | true =>
        have R := hid_ (aval_yes (s := s) x1 x2 x3)
        rw [x3] at C
        clear x3
        go_wp2_with (go_at_call 49; refine (within_any _ _ _ _).mono ?_; rintro e' w' ⟨rfl, rfl⟩)
        refine (C _).mono ?_
        rintro e' w1 ⟨rfl, y1⟩
        have d4 := y1.cell d4
        have hE := hE.trans y1
        clear y1
        go_wp2_with fail
        refine (CW _).mono ?_
        rintro e' w2 ⟨rfl, rfl⟩
        go_wp2_with fail
        go_ret
        exact ⟨ret_bool R.out.symm, hE⟩
set_option maxHeartbeats 1000000 in
theorem avalS_any (k m : Int) (a b s : ByteArray) (w : World) (ha : a.size ≤ 9223372036854775807) (hb : b.size ≤ 9223372036854775807) (hs : s.size ≤ 9223372036854775807) : Calls Tryd.prog 40 #[acA k m a b s] w fun e' w' => e' = .returned (.bool (avalV k m a b s)) ∧ Ext.of w w' := by
  have hE : Ext.of w (w.alloc (.cells #[.int .i64 k, .int .i64 m, .string a, .string b, .string s] 30)) := (Ext.of.refl _).alloc _
  have hc : (w.alloc (.cells #[.int .i64 k, .int .i64 m, .string a, .string b, .string s] 30)).heap[w.heap.size]? = some (.cells #[.int .i64 k, .int .i64 m, .string a, .string b, .string s] 30 (0, 0)) := alloc_new' rfl
  have d4 := cell_of_row _ w.heap.size 4 _ _ _ hc
  have C := fun W => hvalS_any a b W ha hb
  have CW := fun W => wordS_any s W hs
  clear ha hb hs hc
  go_enter Tryd.func40, Tryd.ntmps40
  cases x1 : inB k 0 5 with
  | false =>
    have R := hid_ (aval_no1 (m := m) (a := a) (b := b) (s := s) x1)
    go_wp2_with (go_at_call 78; refine (l1In_any _ _ _ _).mono ?_; rintro e' w' ⟨rfl, rfl⟩)
    go_ret
    exact ⟨ret_bool R.out.symm, hE⟩
  | true =>
    cases x2 : inB m 0 1000000000 with
    | false =>
      have R := hid_ (aval_no2 (k := k) (a := a) (b := b) (s := s) x2)
      go_wp2_with (go_at_call 78; refine (l1In_any _ _ _ _).mono ?_; rintro e' w' ⟨rfl, rfl⟩)
      go_ret
      exact ⟨ret_bool R.out.symm, hE⟩
    | true =>
      cases x3 : hvalV a b with
      | false =>
        have R := hid_ (aval_no3 (k := k) (m := m) (s := s) x3)
        rw [x3] at C
        clear x3
        go_wp2_with (go_at_call 78; refine (l1In_any _ _ _ _).mono ?_; rintro e' w' ⟨rfl, rfl⟩)
        refine (C _).mono ?_
        rintro e' w1 ⟨rfl, y1⟩
        go_wp2_with fail
        go_ret
        exact ⟨ret_bool R.out.symm, hE.trans y1⟩
      | true =>
        have R := hid_ (aval_yes (s := s) x1 x2 x3)
        rw [x3] at C
        clear x3
        go_wp2_with (go_at_call 78; refine (l1In_any _ _ _ _).mono ?_; rintro e' w' ⟨rfl, rfl⟩)
        refine (C _).mono ?_
        rintro e' w1 ⟨rfl, y1⟩
        have d4 := y1.cell d4
        have hE := hE.trans y1
        clear y1
        go_wp2_with fail
        refine (CW _).mono ?_
        rintro e' w2 ⟨rfl, rfl⟩
        go_wp2_with fail
        go_ret
        exact ⟨ret_bool R.out.symm, hE⟩
theorem toActivity_any (k m : Int) (a b s : ByteArray) (w : World) : Calls Tryd.prog 16 #[acA k m a b s] w fun e' w' => e' = .returned (acA k m a b s) ∧ Ext.of w w' := by
  go_enter Tryd.func16, Tryd.ntmps16
  go_wp2_with fail
  generalize hW : ((w.alloc (Obj.cells #[Value.int IntKind.i64 k, Value.int IntKind.i64 m, Value.string a, Value.string b, Value.string s] 44)).alloc (Obj.cells #[Value.int IntKind.i64 0, Value.int IntKind.i64 0, Value.string ⟨#[]⟩, Value.string ⟨#[]⟩, Value.string ⟨#[]⟩] 30)).alloc (Obj.cells #[Value.int IntKind.i64 k, Value.int IntKind.i64 m, Value.string ⟨#[]⟩, Value.string ⟨#[]⟩, Value.string ⟨#[]⟩] 30) = W
  have hE : Ext.of w W := by rw [← hW]; exact (((Ext.of.refl _).alloc _).alloc _).alloc _
  have h0 : W.heap[w.heap.size]? = some (.cells #[.int .i64 k, .int .i64 m, .string a, .string b, .string s] 44 (0, 0)) := by rw [← hW]; exact alloc_old (alloc_old (alloc_new' rfl))
  have h1 : W.heap[w.heap.size + 1]? = some (.cells #[.int .i64 0, .int .i64 0, .string ⟨#[]⟩, .string ⟨#[]⟩, .string ⟨#[]⟩] 30 (0, 0)) := by rw [← hW]; exact alloc_old (alloc_new' (by simp))
  have h2 : W.heap[w.heap.size + 2]? = some (.cells #[.int .i64 k, .int .i64 m, .string ⟨#[]⟩, .string ⟨#[]⟩, .string ⟨#[]⟩] 30 (0, 0)) := by rw [← hW]; exact alloc_new' (by simp)
  clear hW
  refine (toHandle_any a b W).mono ?_
  rintro e' w1 ⟨rfl, x1⟩
  have g0 := (x1.block (Array.getElem?_eq_some_iff.1 h0).1).trans h0
  have g1 := (x1.block (Array.getElem?_eq_some_iff.1 h1).1).trans h1
  have g2 := (x1.block (Array.getElem?_eq_some_iff.1 h2).1).trans h2
  have hE1 := hE.trans x1
  clear hE x1 h0 h1 h2
  have b4 := cell_of_row w1 w.heap.size 4 _ _ _ g0

  have c0 := cell_of_row w1 (w.heap.size + 1) 0 _ _ _ g1
  have c1 := cell_of_row w1 (w.heap.size + 1) 1 _ _ _ g1
  have c2 := cell_of_row w1 (w.heap.size + 1) 2 _ _ _ g1
  have c3 := cell_of_row w1 (w.heap.size + 1) 3 _ _ _ g1
  have c4 := cell_of_row w1 (w.heap.size + 1) 4 _ _ _ g1
  have fc0 := frozen_of_row w1 (w.heap.size + 1) 0 _ _ g1
  have fc1 := frozen_of_row w1 (w.heap.size + 1) 1 _ _ g1
  have fc2 := frozen_of_row w1 (w.heap.size + 1) 2 _ _ g1
  have fc3 := frozen_of_row w1 (w.heap.size + 1) 3 _ _ g1
  have fc4 := frozen_of_row w1 (w.heap.size + 1) 4 _ _ g1
  have d0 := cell_of_row w1 (w.heap.size + 2) 0 _ _ _ g2
  have d1 := cell_of_row w1 (w.heap.size + 2) 1 _ _ _ g2
  have d2 := cell_of_row w1 (w.heap.size + 2) 2 _ _ _ g2
  have d3 := cell_of_row w1 (w.heap.size + 2) 3 _ _ _ g2
  have d4 := cell_of_row w1 (w.heap.size + 2) 4 _ _ _ g2
  have fd0 := frozen_of_row w1 (w.heap.size + 2) 0 _ _ g2
  have fd1 := frozen_of_row w1 (w.heap.size + 2) 1 _ _ g2
  have fd2 := frozen_of_row w1 (w.heap.size + 2) 2 _ _ g2
  have fd3 := frozen_of_row w1 (w.heap.size + 2) 3 _ _ g2
  have fd4 := frozen_of_row w1 (w.heap.size + 2) 4 _ _ g2
  clear g0 g1 g2
  go_wp2
  refine bodyPost_ret (v := acA k m a b s) (by simp [results, Tryd.results16, go_sem, c0, c1, c2, c3, c4]) rfl ⟨rfl, Ext.of_below ?_⟩
  exact (((((((hE1.below.setCell (by dsimp; omega) _).setCell (by dsimp; omega) _).setCell (by dsimp; omega) _).setCell (by dsimp; omega) _).setCell (by dsimp; omega) _).setCell (by dsimp; omega) _).setCell (by dsimp; omega) _).setCell (by dsimp; omega) _
theorem szActivity_any (k m : Int) (a b s : ByteArray) (l : Int) (h0 : 0 ≤ l) (h1 : l ≤ 1048576) (w : World) (ha : a.size ≤ 9223372036854775807) (hb : b.size ≤ 9223372036854775807) (hs : s.size ≤ 9223372036854775807) : Calls Tryd.prog 14 #[acA k m a b s, .int .i64 l] w fun e' w' => ∃ r : Int, e' = .returned (.int .i64 r) ∧ -1 ≤ r ∧ r ≤ l ∧ Ext.of w w' := by
  have hE : Ext.of w (w.alloc (.cells #[.int .i64 k, .int .i64 m, .string a, .string b, .string s] 44)) := (Ext.of.refl _).alloc _
  have hc : (w.alloc (.cells #[.int .i64 k, .int .i64 m, .string a, .string b, .string s] 44)).heap[w.heap.size]? = some (.cells #[.int .i64 k, .int .i64 m, .string a, .string b, .string s] 44 (0, 0)) := alloc_new' rfl
  have d4 := cell_of_row _ w.heap.size 4 _ _ _ hc
  clear hc
  go_enter Tryd.func14, Tryd.ntmps14
  go_wp2_with fail
  refine (szHandle_any a b l h0 h1 _ ha hb).mono ?_
  rintro e' w1 ⟨r, rfl, r0, r1, y1⟩
  have d4 := y1.cell d4
  have hE := hE.trans y1
  clear y1
  by_cases hr : r < 0
  · go_wp2_with fail
    go_ret
    exact ⟨_, rfl, by omega, by omega, hE⟩
  · by_cases hq : r - s.size < 0
    · go_wp2_with fail
      go_ret
      exact ⟨_, rfl, by omega, by omega, hE⟩
    · go_wp2_with fail
      go_ret
      exact ⟨_, rfl, by omega, by omega, hE⟩
def acOk (xs : List (Int × Int × ByteArray × ByteArray × ByteArray)) : Prop := ∀ x ∈ xs, x.2.2.1.size ≤ 9223372036854775807 ∧ x.2.2.2.1.size ≤ 9223372036854775807 ∧ x.2.2.2.2.size ≤ 9223372036854775807
end Go.Proofs.YtoagpfdhbcgdcaaDoor
end
section
/- A region that draws its order: an invariant over what has come up serves every order. -/
namespace Go.Proofs.YtoagpfdhbcgdcaaDoor
open Go Go.RowKit

/-- The operation of a region that writes a slot. -/
def idxOf (l : List Oper) (t : Tmp) : Option Nat := l.findIdx? (fun o => o.dst == some t)
/-- What an operand reads, once all that it leans on has come up: env i is what operation i yields. -/
def rho (l : List Oper) (a0 : Act) (env : Nat → Value) : Operand → Value
  | .tmp t => match idxOf l t with
    | some j => env j
    | none => a0.tmps.getD t undef
  | .const v => v
  | .global g => .pointer (some ⟨g, 0, none⟩)
  | .func f => .func (.func f) #[] #[]
def isSelect : Op → Bool
  | .select _ _ => true
  | _ => false
def okOp (l : List Oper) (n : Nat) (i : Nat) (o : Oper) : Bool :=
  (o.after.all fun e => !Region.binds .any e || decide (e.on < i)) && o.guard.isNone && !isSelect o.op &&
  (o.op.operands.all fun x => match x with
    | .tmp t => match idxOf l t with
      | some j => o.after.any fun e => e.on == j && Region.binds .any e
      | none => true
    | _ => true) &&
  (match o.dst with
    | some d => decide (d < n) && idxOf l d == some i
    | none => true)
def okRegion (l : List Oper) (n : Nat) : Bool := (List.range l.length).all fun i => match l[i]? with
  | some o => okOp l n i o
  | none => true

/-- What an operation comes to. -/
def Yield (P : Program) (o : Oper) (ρ : Operand → Value) (w : World) (R : Value → World → Prop) : Prop :=
  match (execOp ρ o).run P w with
  | .ok (.value v) w' => R v w'
  | .ok .skip w' => R undef w'
  | .ok (.enter f args) w' => Calls P f args w' (fun e w'' => ∃ v, e = .returned v ∧ R v w'')
  | _ => False
theorem wp_of_yield {P : Program} {o : Oper} {a : Act} {w : World} {K : Act → World → Prop} {Q : Exit → Act → World → Prop} {R : Value → World → Prop}
    (h : Yield P o a.eval w R) (hK : ∀ v w', R v w' → K (a.put o.dst v) w') : o.wp P a w K Q := by
  unfold Yield at h
  unfold Oper.wp
  generalize (execOp a.eval o).run P w = r at *
  cases r with
  | ok n w' =>
    cases n <;> simp only [Oper.upon] at h ⊢
    case value v => exact hK _ _ h
    case skip => exact hK _ _ h
    case enter f args => exact h.mono fun e w'' ⟨v, he, hR⟩ => by subst he; exact hK _ _ hR
  | halt x w' => exact h.elim

section
variable {P : Program} {l : List Oper} {a0 : Act} {W : Nat → World → Prop} {Tr : World → World → Prop} {F : Nat → Value → World → Prop}

/-- How many are still to come. -/
def left (L : Array Bool) : Nat := L.toList.countP (fun b => !b)
structure Inv (l : List Oper) (a0 : Act) (W : Nat → World → Prop) (F : Nat → Value → World → Prop) (L : Array Bool) (env : Nat → Value) (a : Act) (w : World) : Prop where
  len : L.size = l.length
  size : a.tmps.size = a0.tmps.size
  defers : a.defers = a0.defers
  slots : ∀ t, t < a0.tmps.size → a.tmps[t]? = match idxOf l t with
    | some j => if L.getD j false = true then some (env j) else a0.tmps[t]?
    | none => a0.tmps[t]?
  facts : ∀ i, L.getD i false = true → F i (env i) w
  world : W (l.length - left L) w

/-- The frame behind the region. -/
def after (l : List Oper) (a0 : Act) (env : Nat → Value) : Act :=
  ⟨((List.range a0.tmps.size).map fun t => match idxOf l t with
    | some j => env j
    | none => a0.tmps.getD t undef).toArray, a0.defers⟩

theorem idxOf_lt {l : List Oper} {t : Tmp} {j : Nat} (h : idxOf l t = some j) : j < l.length := by
  unfold idxOf at h
  exact (List.findIdx?_eq_some_iff_findIdx_eq.1 h).1

theorem inv_after {L : Array Bool} {env : Nat → Value} {a : Act} {w : World} (h : Inv l a0 W F L env a w) (hall : ∀ i, i < l.length → L.getD i false = true) : a = after l a0 env := by
  obtain ⟨tmps, defers⟩ := a
  have hd := h.defers
  have hs := h.size
  simp only at hd hs
  subst hd
  unfold after
  congr 1
  refine Array.ext (by simp [hs]) fun t h1 h2 => ?_
  have ht : t < a0.tmps.size := by omega
  have e := h.slots t ht
  simp only [Array.getElem?_eq_getElem h1] at e
  simp only [List.getElem_toArray, List.getElem_map, List.getElem_range]
  cases hj : idxOf l t with
  | none =>
    simp only [hj, Array.getElem?_eq_getElem ht] at e
    injection e with e
    simp [e, ht]
  | some j =>
    simp only [hj, hall j (idxOf_lt hj), if_true] at e
    injection e

theorem okRegion_at {n i : Nat} {o : Oper} (h : okRegion l n = true) (hi : l[i]? = some o) : okOp l n i o = true := by
  unfold okRegion at h
  have hlt : i < l.length := (List.getElem?_eq_some_iff.1 hi).1
  have := (List.all_eq_true.1 h) i (List.mem_range.2 hlt)
  simpa [hi] using this
theorem idxOf_dst {t : Tmp} {j : Nat} (h : idxOf l t = some j) : ∃ o, l[j]? = some o ∧ o.dst = some t := by
  have hlt := idxOf_lt h
  unfold idxOf at h
  have := List.findIdx?_eq_some_iff_getElem.1 h
  obtain ⟨hj, h1, _⟩ := this
  exact ⟨l[j], by simp, by simpa using h1⟩
theorem inv_eval {L : Array Bool} {env : Nat → Value} {a : Act} {w : World} (h : Inv l a0 W F L env a w) {i : Nat} {o : Oper} (hR : okRegion l a0.tmps.size = true) (hi : l[i]? = some o)
    (hdeps : ∀ e ∈ o.after.toList, Region.binds .any e = true → L.getD e.on false = true) : execOp a.eval o = execOp (rho l a0 env) o := by
  have hok := okRegion_at hR hi
  unfold okOp at hok
  simp only [Bool.and_eq_true] at hok
  obtain ⟨⟨⟨⟨_, _⟩, hsel⟩, hops⟩, _⟩ := hok
  refine execOp_congr o (fun cs b e => by rw [e] at hsel; simp [isSelect] at hsel) fun x hx => ?_
  rw [Array.all_eq_true_iff_forall_mem] at hops
  have hx' := hops x hx
  cases x with
  | tmp t =>
    simp only [Act.eval, rho]
    simp only at hx'
    rcases Nat.lt_or_ge t a0.tmps.size with ht | ht
    · have e := h.slots t ht
      have hta : t < a.tmps.size := by rw [h.size]; exact ht
      cases hj : idxOf l t with
      | none =>
        simp only [hj] at e
        simp only [Array.getD_eq_getD_getElem?, e]
      | some j =>
        simp only [hj] at e hx'
        have hl : L.getD j false = true := by
          simp only [Array.any_eq_true', Bool.and_eq_true, beq_iff_eq] at hx'
          obtain ⟨ed, hed, h1, h2⟩ := hx'
          rw [← h1]; exact hdeps ed (by simpa using hed) h2
        rw [hl, if_pos rfl] at e
        simp only [Array.getD_eq_getD_getElem?, e, Option.getD_some]
    · have hta : a.tmps.size ≤ t := by rw [h.size]; exact ht
      cases hj : idxOf l t with
      | none => simp only [Array.getD_eq_getD_getElem?, Array.getElem?_eq_none hta, Array.getElem?_eq_none ht]
      | some j =>
        obtain ⟨oj, h1, h2⟩ := idxOf_dst hj
        have hokj := okRegion_at hR h1
        unfold okOp at hokj
        rw [h2] at hokj
        have h3 : (decide (t < a0.tmps.size) && idxOf l t == some j) = true := (Bool.and_eq_true_iff.1 hokj).2
        exact absurd (of_decide_eq_true (Bool.and_eq_true_iff.1 h3).1) (Nat.not_lt.2 ht)
  | const v => rfl
  | global g => rfl
  | func f => rfl

theorem getD_set {L : Array Bool} {i j : Nat} (hi : i < L.size) : (L.setIfInBounds i true).getD j false = if j = i then true else L.getD j false := by
  simp only [Array.getD_eq_getD_getElem?, Array.getElem?_setIfInBounds]
  by_cases h : i = j
  · subst h; simp [hi]
  · rw [if_neg h, if_neg (fun e => h e.symm)]

theorem left_set {L : Array Bool} {i : Nat} (hi : i < L.size) (h : L.getD i true = false) : left (L.setIfInBounds i true) + 1 = left L := by
  unfold left
  rw [Array.toList_setIfInBounds]
  have hi' : i < L.toList.length := by simpa using hi
  have hv : L.toList[i] = false := by
    have : L.getD i true = L[i] := by simp [hi]
    rw [this] at h; simpa using h
  have e : L.toList = L.toList.take i ++ L.toList[i] :: L.toList.drop (i + 1) := by
    rw [List.getElem_cons_drop, List.take_append_drop]
  rw [List.set_eq_take_append_cons_drop, if_pos hi', List.countP_append, List.countP_cons]
  conv => rhs; rw [e, List.countP_append, List.countP_cons, hv]
  simp
  omega
theorem left_le {L : Array Bool} (h : L.size = l.length) : left L ≤ l.length := by
  rw [← h]; unfold left; exact Nat.le_trans List.countP_le_length (by simp)
theorem inv_step {L : Array Bool} {env : Nat → Value} {a : Act} {w w' : World} {i : Nat} {o : Oper} {v : Value} (h : Inv l a0 W F L env a w) (hR : okRegion l a0.tmps.size = true) (hi : l[i]? = some o)
    (hst : ∀ i v, F i v w → F i v w') (hb : L.getD i true = false) (hF : F i v w') (hW : W (l.length - left L + 1) w') : Inv l a0 W F (L.setIfInBounds i true) (fun k => if k = i then v else env k) (a.put o.dst v) w' := by
  have hlt : i < l.length := (List.getElem?_eq_some_iff.1 hi).1
  have hiL : i < L.size := by rw [h.len]; exact hlt
  have hok := okRegion_at hR hi
  unfold okOp at hok
  simp only [Bool.and_eq_true] at hok
  have hdst := hok.2
  refine ⟨by simp [h.len], ?_, ?_, fun t ht => ?_, fun j hj => ?_, by have e1 := left_set hiL hb; have e2 := left_le h.len; rw [show l.length - left (L.setIfInBounds i true) = l.length - left L + 1 by omega]; exact hW⟩
  · cases hd : o.dst <;> simp [Act.put, h.size]
  · cases hd : o.dst <;> simp [Act.put, h.defers]
  · have e := h.slots t ht
    have hta : t < a.tmps.size := by rw [h.size]; exact ht
    cases hd : o.dst with
    | none =>
      simp only [Act.put, e]
      cases hj : idxOf l t with
      | none => rfl
      | some j =>
        simp only [getD_set hiL]
        have hne : j ≠ i := by
          rintro rfl
          obtain ⟨oj, h1, h2⟩ := idxOf_dst hj
          rw [hi] at h1; injection h1 with h1; subst h1; rw [hd] at h2; cases h2
        rw [if_neg hne, if_neg hne]
    | some d =>
      rw [hd] at hdst
      simp only [Bool.and_eq_true, decide_eq_true_eq, beq_iff_eq] at hdst
      simp only [Act.put, Array.getElem?_setIfInBounds]
      by_cases hdt : d = t
      · subst hdt
        rw [if_pos rfl, if_pos hta, hdst.2]
        simp only [getD_set hiL, if_true]
      · rw [if_neg hdt, e]
        cases hj : idxOf l t with
        | none => rfl
        | some j =>
          simp only [getD_set hiL]
          have hne : j ≠ i := by
            rintro rfl
            obtain ⟨oj, h1, h2⟩ := idxOf_dst hj
            rw [hi] at h1; injection h1 with h1; subst h1; rw [hd] at h2; injection h2 with h2; exact hdt h2
          rw [if_neg hne, if_neg hne]
  · rw [getD_set hiL] at hj
    by_cases e : j = i
    · subst e; simpa using hF
    · rw [if_neg e] at hj ⊢
      exact hst _ _ (h.facts j hj)

theorem left_zero {L : Array Bool} (h : left L = 0) (i : Nat) (hi : i < L.size) : L.getD i false = true := by
  unfold left at h
  rw [List.countP_eq_zero] at h
  have := h L[i] (by simp)
  simp only [Array.getD_eq_getD_getElem?, Array.getElem?_eq_getElem hi, Option.getD_some]
  simpa using this

theorem all_listed {L : Array Bool} (hlen : L.size = l.length) (hR : okRegion l a0.tmps.size = true) (hr : Region.ready .any l.toArray L = []) : ∀ i, i < l.length → L.getD i false = true := by
  intro i
  induction i using Nat.strongRecOn with
  | ind i ih =>
    intro hi
    have ho : l[i]? = some l[i] := by simp
    have hok := okRegion_at hR ho
    unfold okOp at hok
    simp only [Bool.and_eq_true] at hok
    have haf := hok.1.1.1.1
    cases hb : L.getD i false with
    | true => rfl
    | false =>
      exfalso
      have hiL : i < L.size := by omega
      have hb' : L.getD i true = false := by
        simp only [Array.getD_eq_getD_getElem?, Array.getElem?_eq_getElem hiL, Option.getD_some] at hb ⊢; exact hb
      have : i ∈ Region.ready .any l.toArray L := by
        unfold Region.ready
        refine List.mem_filter.2 ⟨by simpa using hi, ?_⟩
        simp only [hb', Bool.not_false, Bool.true_and, List.getElem?_toArray, ho, Option.map_some, Option.getD_some]
        rw [Array.all_eq_true_iff_forall_mem] at haf ⊢
        intro e he
        have := haf e he
        cases hbe : Region.binds .any e with
        | false => simp
        | true =>
          simp only [hbe, Bool.not_true, Bool.false_or, decide_eq_true_eq] at this
          rw [ih e.on this (by omega)]
          simp
      rw [hr] at this
      cases this

theorem left_none {L : Array Bool} (h : L.size = l.length) (hall : ∀ i, i < l.length → L.getD i false = true) : left L = 0 := by
  unfold left
  rw [List.countP_eq_zero]
  intro b hb
  obtain ⟨i, hi, rfl⟩ := List.getElem_of_mem hb
  have hi' : i < L.size := by simpa using hi
  have := hall i (by omega)
  simp only [Array.getD_eq_getD_getElem?, Array.getElem?_eq_getElem hi', Option.getD_some] at this
  simp [this]
theorem any_of_inv {Q : Exit → Act → World → Prop} (hR : okRegion l a0.tmps.size = true) (hst : ∀ k w w' i v, W k w → Tr w w' → F i v w → F i v w')
    (hstep : ∀ i o, l[i]? = some o → ∀ k env w, k < l.length → W k w → (∀ e ∈ o.after.toList, Region.binds .any e = true → F e.on (env e.on) w) → Yield P o (rho l a0 env) w (fun v w' => F i v w' ∧ W (k + 1) w' ∧ Tr w w'))
    (hfin : ∀ env w, W l.length w → (∀ i, i < l.length → F i (env i) w) → Q .normal (after l a0 env) w) :
    ∀ (fuel : Nat) (L : Array Bool) (env : Nat → Value) (a : Act) (w : World), left L ≤ fuel → Inv l a0 W F L env a w → wpAny P .any l.toArray Q fuel L a w := by
  intro fuel
  induction fuel with
  | zero =>
    intro L env a w hf h
    have hall : ∀ i, i < l.length → L.getD i false = true := fun i hi => left_zero (by omega) i (by rw [h.len]; exact hi)
    refine ⟨?_, ?_⟩
    · unfold Region.ready
      rw [List.filter_eq_nil_iff]
      intro i hi
      have hi' : i < l.length := by simpa using hi
      have hiL : i < L.size := by rw [h.len]; exact hi'
      have := hall i hi'
      simp only [Array.getD_eq_getD_getElem?, Array.getElem?_eq_getElem hiL, Option.getD_some] at this ⊢
      simp [this]
    · rw [inv_after h hall]
      exact hfin env w (by have := h.world; rwa [left_none h.len hall, Nat.sub_zero] at this) (fun i hi => h.facts i (hall i hi))
  | succ fuel ih =>
    intro L env a w hf h
    refine ⟨fun hr => ?_, fun i hi => ?_⟩
    · have hall := all_listed h.len hR hr
      rw [inv_after h hall]
      exact hfin env w (by have := h.world; rwa [left_none h.len hall, Nat.sub_zero] at this) (fun i hi => h.facts i (hall i hi))
    · unfold Region.ready at hi
      obtain ⟨h1, h2⟩ := List.mem_filter.1 hi
      have hi' : i < l.length := by simpa using h1
      have ho : l[i]? = some l[i] := by simp
      simp only [List.getElem?_toArray, ho, Option.map_some, Option.getD_some, Bool.and_eq_true, Bool.not_eq_true'] at h2
      obtain ⟨hb, hdep⟩ := h2
      have hdeps : ∀ e ∈ l[i].after.toList, Region.binds .any e = true → L.getD e.on false = true := by
        intro e he hbe
        rw [Array.all_eq_true_iff_forall_mem] at hdep
        have := hdep e (by simpa using he)
        simpa [hbe] using this
      have hiL : i < L.size := by rw [h.len]; exact hi'
      have hok := okRegion_at hR ho
      unfold okOp at hok
      simp only [Bool.and_eq_true] at hok
      have hg : l[i].guard = none := by simpa using hok.1.1.1.2
      have hlt := left_set hiL hb
      have hle := left_le h.len
      have hy := hstep i l[i] ho _ env w (by omega) h.world (fun e he hbe => h.facts _ (hdeps e he hbe))
      have hy' : Yield P l[i] a.eval w (fun v w' => F i v w' ∧ W (l.length - left L + 1) w' ∧ Tr w w') := by
        unfold Yield at hy ⊢
        rw [inv_eval h hR ho hdeps]; exact hy
      unfold wpOp
      simp only [List.getElem?_toArray, ho]
      rw [if_pos (by simp [Region.wanted, hg])]
      refine .inl (wp_of_yield hy' fun v w' hv => ih _ _ _ _ ?_ (inv_step h hR ho (fun j u hj => hst _ _ _ _ _ h.world hv.2.2 hj) hb hv.1 hv.2.1))
      have := left_set hiL hb
      omega

theorem left_rep (n : Nat) : left (Array.replicate n false) = n := by
  unfold left
  rw [List.countP_eq_length.2 (by intro b hb; simp at hb; simp [hb.2])]
  simp
theorem rep_false (n j : Nat) : (Array.replicate n false).getD j false = false := by
  rw [Array.getD_eq_getD_getElem?, Array.getElem?_replicate]
  split <;> rfl
/-- The law: W is the world's invariant, F what is known of each operation's value, Tr how worlds turn. -/
theorem wp_region_order {id : Nat} {Q : Exit → Act → World → Prop} {w : World} (hm : P.follows .mixedOrders = true) (hR : okRegion l a0.tmps.size = true) (hW : W 0 w.drew)
    (hst : ∀ k w w' i v, W k w → Tr w w' → F i v w → F i v w')
    (hstep : ∀ i o, l[i]? = some o → ∀ k env w, k < l.length → W k w → (∀ e ∈ o.after.toList, Region.binds .any e = true → F e.on (env e.on) w) → Yield P o (rho l a0 env) w (fun v w' => F i v w' ∧ W (k + 1) w' ∧ Tr w w'))
    (hfin : ∀ env w, W l.length w → (∀ i, i < l.length → F i (env i) w) → Q .normal (after l a0 env) w) : (Code.region id l.toArray true).wp P Q a0 w := by
  refine wp_region_any hm ?_
  refine any_of_inv hR hst hstep hfin _ _ (fun _ => undef) a0 _ ?_ ⟨by simp, rfl, rfl, fun t ht => ?_, fun i hi => ?_, by rw [left_rep]; simpa using hW⟩
  · unfold left
    have := List.countP_le_length (p := fun b : Bool => !b) (l := (Array.replicate l.toArray.size false).toList)
    simpa using this
  · cases idxOf l t with
    | none => rfl
    | some j => simp only [rep_false, Bool.false_eq_true, if_false]
  · rw [rep_false] at hi; cases hi

/-- The slot of an operation. -/
def dstAt (l : List Oper) (j : Nat) : Tmp := ((l[j]?).bind (·.dst)).getD 0
/-- What is known of the operations that one leans on: it is said of their slots. -/
def Deps (l : List Oper) (F : Nat → Value → World → Prop) (ρ : Operand → Value) (w : World) : List Edge → Prop
  | [] => True
  | e :: es => (Region.binds .any e = true → ((l[e.on]?).bind (·.dst)).isSome = true → F e.on (ρ (.tmp (dstAt l e.on))) w) ∧ Deps l F ρ w es
theorem deps_of {ρ : Operand → Value} {w : World} {env : Nat → Value} (hR : okRegion l a0.tmps.size = true) (hρ : ρ = rho l a0 env) : ∀ es : List Edge, (∀ e ∈ es, Region.binds .any e = true → F e.on (env e.on) w) → Deps l F ρ w es
  | [], _ => trivial
  | e :: es, h => ⟨fun hb hd => by
      obtain ⟨t, ht⟩ := Option.isSome_iff_exists.1 hd
      have e1 : dstAt l e.on = t := by unfold dstAt; rw [ht]; rfl
      obtain ⟨o, ho, hot⟩ := Option.bind_eq_some_iff.1 ht
      have hok := okRegion_at hR ho
      unfold okOp at hok
      rw [hot] at hok
      simp only [Bool.and_eq_true, beq_iff_eq] at hok
      have e2 : ρ (.tmp t) = env e.on := by rw [hρ]; simp only [rho, hok.2.2]
      rw [e1, e2]
      exact h e (by simp) hb, deps_of hR hρ es fun e' he' => h e' (by simp [he'])⟩
/-- Each operation, walked once. -/
def Steps (P : Program) (l : List Oper) (a0 : Act) (W : Nat → World → Prop) (Tr : World → World → Prop) (F : Nat → Value → World → Prop) : Nat → List Oper → Prop
  | _, [] => True
  | i, o :: rest => (∀ (k : Nat) (ρ : Operand → Value) (w : World), k < l.length → (∀ v, ρ (.const v) = v) → (∀ f, ρ (.func f) = .func (.func f) #[] #[]) → (∀ t, idxOf l t = none → ρ (.tmp t) = a0.tmps.getD t undef) → W k w →
      Deps l F ρ w o.after.toList → Yield P o ρ w (fun v w' => F i v w' ∧ W (k + 1) w' ∧ Tr w w')) ∧ Steps P l a0 W Tr F (i + 1) rest
theorem steps_at {ls : List Oper} {m : Nat} (h : Steps P l a0 W Tr F m ls) : ∀ (j : Nat) (o : Oper), ls[j]? = some o →
    (∀ (k : Nat) (ρ : Operand → Value) (w : World), k < l.length → (∀ v, ρ (.const v) = v) → (∀ f, ρ (.func f) = .func (.func f) #[] #[]) → (∀ t, idxOf l t = none → ρ (.tmp t) = a0.tmps.getD t undef) → W k w →
      Deps l F ρ w o.after.toList → Yield P o ρ w (fun v w' => F (m + j) v w' ∧ W (k + 1) w' ∧ Tr w w')) := by
  induction ls generalizing m with
  | nil => intro j o h; simp at h
  | cons x xs ih =>
    intro j o hj
    cases j with
    | zero => simp at hj; subst hj; exact h.1
    | succ j =>
      have := ih h.2 j o (by simpa using hj)
      rw [show m + (j + 1) = m + 1 + j by omega]
      exact this
theorem wp_region_steps {id : Nat} {Q : Exit → Act → World → Prop} {w : World} (hm : P.follows .mixedOrders = true) (hR : okRegion l a0.tmps.size = true) (hW : W 0 w.drew)
    (hst : ∀ k w w' i v, W k w → Tr w w' → F i v w → F i v w') (hstep : Steps P l a0 W Tr F 0 l)
    (hfin : ∀ env w, W l.length w → (∀ i, i < l.length → F i (env i) w) → Q .normal (after l a0 env) w) : (Code.region id l.toArray true).wp P Q a0 w :=
  wp_region_order hm hR hW hst (fun i o hi k env w hk hw hd => by
    have := steps_at hstep i o hi k (rho l a0 env) w hk (fun _ => rfl) (fun _ => rfl) (fun t ht => by simp only [rho, ht]) hw (deps_of hR rfl _ hd)
    simpa using this) hfin

theorem yield_move {o : Oper} {ρ : Operand → Value} {w : World} {R : Value → World → Prop} (x : Operand) (h : o.op = .move x) (hR : R (ρ x) w) : Yield P o ρ w R := by
  unfold Yield execOp; simp only [h]; exact hR
theorem yield_assign {o : Oper} {ρ : Operand → Value} {w : World} {R : Value → World → Prop} (x : Operand) (h : o.op = .assign x) (hR : R (ρ x) w) : Yield P o ρ w R := by
  unfold Yield execOp; simp only [h]; exact hR
set_option linter.unusedVariables false in
theorem yield_bin {o : Oper} {ρ : Operand → Value} {w : World} {R : Value → World → Prop} (b : BinOp) (t t' : TypeId) (x y : Operand) (v : Value) (h : o.op = .binOp b t x y t') (hv : (execOp ρ o).run P w = .ok (.value v) w) (hR : R v w) : Yield P o ρ w R := by
  unfold Yield; rw [hv]; exact hR
theorem yield_call {o : Oper} {ρ : Operand → Value} {w : World} {R : Value → World → Prop} (f : FuncId) (args : Array Value) (h : (execOp ρ o).run P w = .ok (.enter f args) w)
    (hR : Calls P f args w fun e w' => ∃ v, e = .returned v ∧ R v w') : Yield P o ρ w R := by
  unfold Yield; rw [h]; exact hR
theorem yield_value {o : Oper} {ρ : Operand → Value} {w w' : World} {R : Value → World → Prop} (v : Value) (h : (execOp ρ o).run P w = .ok (.value v) w') (hR : R v w') : Yield P o ρ w R := by
  unfold Yield; rw [h]; exact hR
end
end Go.Proofs.YtoagpfdhbcgdcaaDoor
end
section
/- The contracts of the texts of handles and of activities. -/
namespace Go.Proofs.YtoagpfdhbcgdcaaDoor
open Go.RowKit
set_option linter.unusedVariables false
set_option linter.unusedSimpArgs false
theorem word_small {s : ByteArray} (h : wordV s = true) : s.size ≤ 8 := (wordV_iff.1 h).2.1
theorem hval_small {a b : ByteArray} (h : hvalV a b = true) : a.size ≤ 8 ∧ b.size ≤ 8 := by
  unfold hvalV at h
  rw [Bool.and_eq_true] at h
  exact ⟨word_small h.1, word_small h.2⟩
theorem run_sadd {P : Program} {a b : ByteArray} (h : a.size + b.size ≤ 9223372036854775807) (w : World) : (Op.stringOp .add a b).run P w = .ok (.string (a ++ b)) w := by
  simp [Op.stringOp, go_sem]
  omega
@[irreducible] def htextV (a b : ByteArray) : ByteArray := if hvalV a b = true then (⟨#[64]⟩ : ByteArray) ++ a ++ (⟨#[64]⟩ : ByteArray) ++ b else ⟨#[]⟩
theorem htext_yes {a b : ByteArray} (h : hvalV a b = true) : htextV a b = (⟨#[64]⟩ : ByteArray) ++ a ++ (⟨#[64]⟩ : ByteArray) ++ b := by unfold htextV; rw [if_pos h]
theorem htext_no {a b : ByteArray} (h : hvalV a b = false) : htextV a b = ⟨#[]⟩ := by unfold htextV; rw [h]; rfl
theorem htext_size (a b : ByteArray) : (htextV a b).size ≤ 18 := by
  cases h : hvalV a b with
  | false => rw [htext_no h]; exact Nat.zero_le _
  | true =>
    have h1 := hval_small h
    rw [htext_yes h, ByteArray.size_append, ByteArray.size_append, ByteArray.size_append]
    show 1 + _ + 1 + _ ≤ 18
    omega
set_option maxHeartbeats 1000000 in
theorem htextS_any (a b : ByteArray) (w : World) (ha : a.size ≤ 9223372036854775807) (hb : b.size ≤ 9223372036854775807) : Calls Tryd.prog 85 #[hdA a b] w fun e w' => e = .returned (.string (htextV a b)) ∧ Ext.of w w' := by
  have hE : Ext.of w (w.alloc (.cells #[.string a, .string b] 28)) := (Ext.of.refl _).alloc _
  have hc : (w.alloc (.cells #[.string a, .string b] 28)).heap[w.heap.size]? = some (.cells #[.string a, .string b] 28 (0, 0)) := alloc_new' rfl
  have d0 := cell_of_row _ w.heap.size 0 _ _ _ hc
  have d1 := cell_of_row _ w.heap.size 1 _ _ _ hc
  have C := fun W => hvalS_any a b W ha hb
  clear hc
  go_enter Tryd.func85, Tryd.ntmps85
  cases hv : hvalV a b with
  | false =>
    have R := hid (htext_no hv)
    rw [hv] at C
    clear hv
    go_wp2_with fail
    refine (C _).mono ?_
    rintro e w1 ⟨rfl, x1⟩
    go_wp2_with fail
    go_ret
    exact ⟨ret_s R.out.symm, hE.trans x1⟩
  | true =>
    have R := hid (htext_yes hv)
    have hs := hval_small hv
    have s1 : (⟨#[64]⟩ : ByteArray).size = 1 := rfl
    have L1 : (⟨#[64]⟩ : ByteArray).size + a.size ≤ 9223372036854775807 := by omega
    have L2 : ((⟨#[64]⟩ : ByteArray) ++ a).size + (⟨#[64]⟩ : ByteArray).size ≤ 9223372036854775807 := by rw [ByteArray.size_append]; omega
    have L3 : ((⟨#[64]⟩ : ByteArray) ++ a ++ (⟨#[64]⟩ : ByteArray)).size + b.size ≤ 9223372036854775807 := by rw [ByteArray.size_append, ByteArray.size_append]; omega
    have r1 := fun W => run_sadd (P := Tryd.prog) L1 W
    have r2 := fun W => run_sadd (P := Tryd.prog) L2 W
    have r3 := fun W => run_sadd (P := Tryd.prog) L3 W
    rw [hv] at C
    clear hv s1 L1 L2 L3
    go_wp2_with fail
    refine (C _).mono ?_
    rintro e w1 ⟨rfl, x1⟩
    have d0 := x1.cell d0
    have d1 := x1.cell d1
    go_wp2_with fail
    go_ret
    exact ⟨ret_s R.out.symm, hE.trans x1⟩
@[irreducible] def kindW (k : Int) : ByteArray := [⟨#[99, 114, 101, 97, 116, 101]⟩, ⟨#[117, 112, 100, 97, 116, 101]⟩, ⟨#[100, 101, 108, 101, 116, 101]⟩, ⟨#[102, 111, 108, 108, 111, 119]⟩, ⟨#[97, 99, 99, 101, 112, 116]⟩, ⟨#[117, 110, 100, 111]⟩].getD k.toNat ⟨#[]⟩
theorem kindW_at {k : Int} (h0 : 0 ≤ k) (h1 : k ≤ 5) : (#[.string ⟨#[99, 114, 101, 97, 116, 101]⟩, .string ⟨#[117, 112, 100, 97, 116, 101]⟩, .string ⟨#[100, 101, 108, 101, 116, 101]⟩, .string ⟨#[102, 111, 108, 108, 111, 119]⟩, .string ⟨#[97, 99, 99, 101, 112, 116]⟩, .string ⟨#[117, 110, 100, 111]⟩] : Array Value)[k.toNat]? = some (.string (kindW k)) := by
  unfold kindW
  obtain rfl | rfl | rfl | rfl | rfl | rfl : k = 0 ∨ k = 1 ∨ k = 2 ∨ k = 3 ∨ k = 4 ∨ k = 5 := by omega
  all_goals rfl
theorem kindW_size (k : Int) : (kindW k).size ≤ 6 := by
  unfold kindW
  rcases Nat.lt_or_ge k.toNat 6 with h | h
  · generalize k.toNat = j at h
    obtain rfl | rfl | rfl | rfl | rfl | rfl : j = 0 ∨ j = 1 ∨ j = 2 ∨ j = 3 ∨ j = 4 ∨ j = 5 := by omega
    all_goals decide
  · rw [List.getD_eq_getElem?_getD, List.getElem?_eq_none (by simpa using h)]; decide
@[irreducible] def atextV (k m : Int) (a b s : ByteArray) : ByteArray := if avalV k m a b s = true then kindW k ++ (⟨#[32]⟩ : ByteArray) ++ markV m ++ (⟨#[32]⟩ : ByteArray) ++ htextV a b ++ (⟨#[32]⟩ : ByteArray) ++ s else ⟨#[]⟩
theorem atext_yes {k m : Int} {a b s : ByteArray} (h : avalV k m a b s = true) : atextV k m a b s = kindW k ++ (⟨#[32]⟩ : ByteArray) ++ markV m ++ (⟨#[32]⟩ : ByteArray) ++ htextV a b ++ (⟨#[32]⟩ : ByteArray) ++ s := by unfold atextV; rw [if_pos h]
theorem atext_no {k m : Int} {a b s : ByteArray} (h : avalV k m a b s = false) : atextV k m a b s = ⟨#[]⟩ := by unfold atextV; rw [h]; rfl
theorem aval_parts {k m : Int} {a b s : ByteArray} (h : avalV k m a b s = true) : 0 ≤ k ∧ k ≤ 5 ∧ s.size ≤ 8 := by
  unfold avalV at h
  simp only [Bool.and_eq_true] at h
  exact ⟨(inB_iff.1 h.1).1, (inB_iff.1 h.1).2, word_small h.2.2.2⟩
theorem atext_size (k m : Int) (a b s : ByteArray) : (atextV k m a b s).size ≤ 2000000000 := by
  cases h : avalV k m a b s with
  | false => rw [atext_no h]; exact Nat.zero_le _
  | true =>
    have h1 := kindW_size k
    have h2 := markV_size m
    have h3 := htext_size a b
    have h4 := aval_parts h
    rw [atext_yes h]
    simp only [ByteArray.size_append]
    have s1 : (⟨#[32]⟩ : ByteArray).size = 1 := rfl
    omega
end Go.Proofs.YtoagpfdhbcgdcaaDoor
end
section
/- The contracts of the program's MarkText, HandleText and ActivityText. -/
namespace Go.Proofs.YtoagpfdhbcgdcaaDoor
open Go.RowKit
set_option linter.unusedVariables false
set_option linter.unusedSimpArgs false
set_option maxRecDepth 8000
set_option maxHeartbeats 1000000 in
theorem markI_any (n : Int) (w : World) : Calls Tryd.prog 71 #[.int .i64 n] w fun e w' => e = .returned (.string (markV n)) ∧ w = w' := by
  by_cases hn : 0 ≤ n ∧ n ≤ 1000000000
  · have hV := hid (markV_yes hn)
    obtain ⟨k, rfl⟩ := Int.eq_ofNat_of_zero_le hn.1
    have hk : k ≤ 1000000000 := by omega
    have e1 := Int.tmod_eq_emod_of_nonneg (a := (k : Int)) (b := 36) (by omega)
    have h0 : 0 ≤ (k : Int) % 36 := by omega
    have h1 : (k : Int) % 36 < 36 := by omega
    clear hn
    go_enter Tryd.func71, Tryd.ntmps71
    go_wp2
    clear e1 h0 h1
    go_loopw [0, 3] (fun v s wr => ∃ (j : Nat) (t : ByteArray), v = .int .i64 j ∧ t.size + j ≤ k + 1 ∧ s = .string t ∧ Hid (mkT j t = markV k) ∧ wr = w) (fun v _ _ => (intOf v).toNat)
    case atStart => exact ⟨k, _, rfl, by rw [dig36_eq, dig36_one (by omega)]; omega, rfl, by show _ = _; rw [hV.out, dig36_eq]; rfl, rfl⟩
    case round =>
      obtain ⟨j, t, rfl, hj, rfl, ht, rfl⟩ := hrel
      by_cases hl : j < 36
      · have R := hid ((mkT_end hl t).symm.trans ht.out)
        clear ht hV
        go_wp2
        go_ret
        exact ⟨ret_s R.out, rfl⟩
      · have R := hid ((mkT_more hl t).symm.trans ht.out)
        have e2 := Int.tdiv_eq_ediv_of_nonneg (a := (j : Int)) (b := 36) (by omega)
        have hd : ((j : Int) / 36) = ((j / 36 : Nat) : Int) := by omega
        have e1 := Int.tmod_eq_emod_of_nonneg (a := ((j / 36 : Nat) : Int)) (b := 36) (by omega)
        have e3 : ((j / 36 : Nat) : Int) % 36 = ((j / 36 % 36 : Nat) : Int) := by omega
        have hb : j / 36 ≤ 1000000000 := by omega
        have hb2 : j / 36 % 36 < 36 := by omega
        have hlt : 1 + j / 36 ≤ j := by omega
        clear ht hV
        rw [hd] at e2
        rw [e3] at e1
        clear hd e3
        have hsz := dig36_one hb2
        generalize j / 36 = q at *
        have hs2 : (dig36 (q % 36) ++ t).size = 1 + t.size := by rw [ByteArray.size_append, hsz]
        have H := hid (And.intro hs2 hsz)
        have hmin : min (q % 36 + 1) 36 - q % 36 = 1 := by omega
        clear hs2 hsz
        go_wp2
        go_roundw
        case rel => exact ⟨q, _, rfl, by rw [dig36_eq, H.out.1]; omega, rfl, by rw [dig36_eq]; exact R, trivial⟩
        case measure => simp [intOf]; omega
  · have hV := hid (markV_no hn)
    by_cases h0 : n < 0
    · clear hn
      go_enter Tryd.func71, Tryd.ntmps71
      go_wp2
      go_ret
      exact ⟨ret_s hV.out.symm, rfl⟩
    · have h1 : 1000000000 < n := by omega
      clear hn
      go_enter Tryd.func71, Tryd.ntmps71
      go_wp2
      go_ret
      exact ⟨ret_s hV.out.symm, rfl⟩
set_option maxHeartbeats 1000000 in
theorem htextI_any (a b : ByteArray) (w : World) (ha : a.size ≤ 9223372036854775807) (hb : b.size ≤ 9223372036854775807) : Calls Tryd.prog 72 #[hdA a b] w fun e w' => e = .returned (.string (htextV a b)) ∧ Ext.of w w' := by
  have hE : Ext.of w (w.alloc (.cells #[.string a, .string b] 28)) := (Ext.of.refl _).alloc _
  have hc : (w.alloc (.cells #[.string a, .string b] 28)).heap[w.heap.size]? = some (.cells #[.string a, .string b] 28 (0, 0)) := alloc_new' rfl
  have d0 := cell_of_row _ w.heap.size 0 _ _ _ hc
  have d1 := cell_of_row _ w.heap.size 1 _ _ _ hc
  have C := fun W => hvalI_any a b W ha hb
  clear hc
  go_enter Tryd.func72, Tryd.ntmps72
  cases hv : hvalV a b with
  | false =>
    have R := hid (htext_no hv)
    rw [hv] at C
    clear hv
    go_wp2_with fail
    refine (C _).mono ?_
    rintro e w1 ⟨rfl, x1⟩
    go_wp2_with fail
    go_ret
    exact ⟨ret_s R.out.symm, hE.trans x1⟩
  | true =>
    have R := hid (htext_yes hv)
    have hs := hval_small hv
    have s1 : (⟨#[64]⟩ : ByteArray).size = 1 := rfl
    have L1 : (⟨#[64]⟩ : ByteArray).size + a.size ≤ 9223372036854775807 := by omega
    have L2 : ((⟨#[64]⟩ : ByteArray) ++ a).size + (⟨#[64]⟩ : ByteArray).size ≤ 9223372036854775807 := by rw [ByteArray.size_append]; omega
    have L3 : ((⟨#[64]⟩ : ByteArray) ++ a ++ (⟨#[64]⟩ : ByteArray)).size + b.size ≤ 9223372036854775807 := by rw [ByteArray.size_append, ByteArray.size_append]; omega
    have r1 := fun W => run_sadd (P := Tryd.prog) L1 W
    have r2 := fun W => run_sadd (P := Tryd.prog) L2 W
    have r3 := fun W => run_sadd (P := Tryd.prog) L3 W
    rw [hv] at C
    clear hv s1 L1 L2 L3
    go_wp2_with fail
    refine (C _).mono ?_
    rintro e w1 ⟨rfl, x1⟩
    have d0 := x1.cell d0
    have d1 := x1.cell d1
    go_wp2_with fail
    go_ret
    exact ⟨ret_s R.out.symm, hE.trans x1⟩
/-- The words of the kinds lie where the program's text lays them. -/
def KW (w : World) : Prop := ∀ k : Int, 0 ≤ k → k ≤ 5 → w.cell? ⟨0, k.toNat, none⟩ = some (.string (kindW k))
theorem KW.below {w w' : World} (h : KW w) (hb : Below w.heap.size w w') : KW w' := fun k h0 h1 => (hb.cell (World.block_lt_of_cell? _ _ (h k h0 h1))).trans (h k h0 h1)
theorem KW.ext {w w' : World} (h : KW w) (hx : Ext.of w w') : KW w' := h.below hx.below
set_option maxHeartbeats 4000000 in
theorem atextI_any (kd m : Int) (a b s : ByteArray) (w : World) (hK : KW w) (ha : a.size ≤ 9223372036854775807) (hb : b.size ≤ 9223372036854775807) (hs : s.size ≤ 9223372036854775807) : Calls Tryd.prog 34 #[acA kd m a b s] w fun e w' => e = .returned (.string (atextV kd m a b s)) ∧ Ext.of w w' := by
  have hE0 : Ext.of w (w.alloc (.cells #[.int .i64 kd, .int .i64 m, .string a, .string b, .string s] 30)) := (Ext.of.refl _).alloc _
  have hc : (w.alloc (.cells #[.int .i64 kd, .int .i64 m, .string a, .string b, .string s] 30)).heap[w.heap.size]? = some (.cells #[.int .i64 kd, .int .i64 m, .string a, .string b, .string s] 30 (0, 0)) := alloc_new' rfl
  have C := fun W => avalI_any kd m a b s W ha hb hs
  have a0 := cell_of_row _ w.heap.size 0 _ _ _ hc
  have a1 := cell_of_row _ w.heap.size 1 _ _ _ hc
  have a2 := cell_of_row _ w.heap.size 2 _ _ _ hc
  have a3 := cell_of_row _ w.heap.size 3 _ _ _ hc
  have a4 := cell_of_row _ w.heap.size 4 _ _ _ hc
  go_enter Tryd.func34, Tryd.ntmps34
  cases hv : avalV kd m a b s with
  | false =>
    have R := hid (atext_no hv)
    rw [hv] at C
    clear hv
    go_wp2_with fail
    refine (C _).mono ?_
    rintro e w1 ⟨rfl, x1⟩
    go_wp2_with fail
    go_ret
    exact ⟨ret_s R.out.symm, hE0.trans x1⟩
  | true =>
    have R := hid (atext_yes hv)
    obtain ⟨hk0, hk5, hs8⟩ := aval_parts hv
    have h1 := kindW_size kd
    have h2 := markV_size m
    have h3 := htext_size a b
    have CM := fun W => markI_any m W
    have CH := fun W => htextI_any a b W ha hb
    rw [hv] at C
    clear hv
    go_wp2_with fail
    refine (C _).mono ?_
    rintro e W0 ⟨rfl, x1⟩
    have hc := (x1.block (Array.getElem?_eq_some_iff.1 hc).1).trans hc
    have hE0 := hE0.trans x1
    have d0 := cell_of_row W0 w.heap.size 0 _ _ _ hc
    have d1 := cell_of_row W0 w.heap.size 1 _ _ _ hc
    have d2 := cell_of_row W0 w.heap.size 2 _ _ _ hc
    have d3 := cell_of_row W0 w.heap.size 3 _ _ _ hc
    have d4 := cell_of_row W0 w.heap.size 4 _ _ _ hc
    have dk := hK.ext hE0 kd hk0 hk5
    clear hc x1 C a0 a1 a2 a3 a4 hK
    go_wp2_with fail
    obtain ⟨K, hK⟩ : ∃ K, kindW kd = K := ⟨_, rfl⟩
    generalize markV m = M at *
    generalize htextV a b = Hx at *
    rw [hK] at h1 dk
    have HR := R.out
    rw [hK] at HR
    have s1 : (⟨#[32]⟩ : ByteArray).size = 1 := rfl
    have L1 : (K).size + (⟨#[32]⟩ : ByteArray).size ≤ 9223372036854775807 := by omega
    have L2 : (K ++ (⟨#[32]⟩ : ByteArray)).size + M.size ≤ 9223372036854775807 := by simp only [ByteArray.size_append]; omega
    have L3 : (K ++ (⟨#[32]⟩ : ByteArray) ++ M).size + (⟨#[32]⟩ : ByteArray).size ≤ 9223372036854775807 := by simp only [ByteArray.size_append]; omega
    have L4 : (K ++ (⟨#[32]⟩ : ByteArray) ++ M ++ (⟨#[32]⟩ : ByteArray)).size + Hx.size ≤ 9223372036854775807 := by simp only [ByteArray.size_append]; omega
    have L5 : (K ++ (⟨#[32]⟩ : ByteArray) ++ M ++ (⟨#[32]⟩ : ByteArray) ++ Hx).size + (⟨#[32]⟩ : ByteArray).size ≤ 9223372036854775807 := by simp only [ByteArray.size_append]; omega
    have L6 : (K ++ (⟨#[32]⟩ : ByteArray) ++ M ++ (⟨#[32]⟩ : ByteArray) ++ Hx ++ (⟨#[32]⟩ : ByteArray)).size + s.size ≤ 9223372036854775807 := by simp only [ByteArray.size_append]; omega
    have r1 := fun W => run_sadd (P := Tryd.prog) L1 W
    have r2 := fun W => run_sadd (P := Tryd.prog) L2 W
    have r3 := fun W => run_sadd (P := Tryd.prog) L3 W
    have r4 := fun W => run_sadd (P := Tryd.prog) L4 W
    have r5 := fun W => run_sadd (P := Tryd.prog) L5 W
    have r6 := fun W => run_sadd (P := Tryd.prog) L6 W
    have hk6 : kd < 6 := by omega
    have e0 := more_cell d0
    have e1 := more_cell d1
    have e2 := more_cell d2
    have e3 := more_cell d3
    have e4 := more_cell d4
    have ek := more_cell dk
    clear L1 L2 L3 L4 L5 L6 s1 d0 d1 d2 d3 d4 dk h1 h2 h3 R hK
    refine wp_region_more (by kernel_rfl) (by kernel_rfl) ?_
    repeat (go_big_quiet_step (first | exact more_same (CM _) | exact more_of (CH _)))
    refine wpQuiet_nil ?_
    rintro _ ⟨z, rfl⟩
    go_wp2_with fail
    go_ret
    exact ⟨ret_s HR.symm, hE0.trans ⟨z, rfl⟩⟩
end Go.Proofs.YtoagpfdhbcgdcaaDoor
end
