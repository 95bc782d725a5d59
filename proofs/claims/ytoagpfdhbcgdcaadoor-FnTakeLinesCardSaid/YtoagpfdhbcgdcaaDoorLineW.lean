/- The contract of l1Words: the words of a line. -/
import Derived.Test.YtoagpfdhbcgdcaaDoorWordsL
import Derived.Test.YtoagpfdhbcgdcaaDoorG4
import Derived.Test.YtoagpfdhbcgdcaaDoorG3
namespace Go.Proofs.YtoagpfdhbcgdcaaDoor
open Go.RowKit
set_option linter.unusedVariables false
set_option linter.unusedSimpArgs false
def TrW (i : Nat) (a b : World) : Prop := i = 17 ∨ a = b
theorem TrW.get {i : Nat} {a b : World} (h : TrW i a b) (hi : i ≠ 17) : a = b := h.resolve_left hi
theorem sts_set (us : List ByteArray) (x y : ByteArray) : (sts (us ++ [x])).set us.length (.string y) = sts (us ++ [y]) := by
  have e : ∀ l : List ByteArray, sts l = l.map Value.string := fun l => by
    induction l with
    | nil => rfl
    | cons a t ih => simp only [flat, List.flatMap_cons] at ih ⊢; rw [ih]; rfl
  rw [e, e, List.map_append, List.map_append]
  have h : ∀ l : List Value, (l ++ [Value.string x]).set l.length (.string y) = l ++ [.string y] := fun l => by
    induction l with
    | nil => rfl
    | cons a t ih => simp only [List.cons_append, List.length_cons, List.set_cons_succ, ih]
  have := h (us.map Value.string)
  rwa [List.length_map] at this
set_option maxRecDepth 8000 in
set_option maxHeartbeats 4000000 in
theorem wordsS_any (s : ByteArray) (w : World) (hs : s.size < 4294967281) :
    Calls Tryd.prog 93 #[.string s] w fun e w' => ∃ C n e', e = .returned (.slice C n e') ∧ w'.ownsRow w.heap.size 9 1 (.slice C n e') n (sts (wordsV s)) ∧ Below w.heap.size w w' := by
  have O0 : (w.alloc (.cells #[Value.string ⟨#[]⟩] 9)).ownsRow w.heap.size 9 1 (.slice (some ⟨w.heap.size, 0, none⟩) 1 1) 1 (sts (wL s 0)) := by rw [wL_zero]; exact own_lit w [.string ⟨#[]⟩] 9 1 1 w.heap.size rfl rfl (by unfold maxLen; omega)
  have B0 : Below w.heap.size w (w.alloc (.cells #[Value.string ⟨#[]⟩] 9)) := (Below.refl _ _).alloc (Nat.le_refl _) _
  go_enter Tryd.func93, Tryd.ntmps93
  go_wp2_with fail
  go_loopw [3, 4] (fun v i wr => ∃ (k n e' : Nat) (C : Option Addr), k ≤ s.size ∧ i = .int .i64 k ∧ v = .slice C n e' ∧ wr.ownsRow w.heap.size 9 1 (.slice C n e') n (sts (wL s k)) ∧ Below w.heap.size w wr) (fun _ i _ => s.size - (intOf i).toNat)
  case atStart => exact ⟨0, 1, 1, _, Nat.zero_le _, rfl, rfl, O0, B0⟩
  case round =>
    clear O0 B0
    obtain ⟨k, n, e', C, hk, rfl, rfl, O, hB⟩ := hrel
    by_cases hlt : k < s.size
    · have hn : n = (wL s k).length := own_count O stC_len (by omega)
      have hl := wL_len s k
      have hn1 : 1 ≤ n ∧ n ≤ k + 1 := by omega
      have HN := hid hn
      clear hn hl
      obtain ⟨n1, n2⟩ := hn1
      by_cases hc : s[k] = 32
      · have N := hid (wL_space hlt hc)
        have t2 : (s[k]'hlt).toNat = 32 := by rw [hc]; rfl
        have t1 : (((s[k]'hlt).toNat : Int) == 32) = true := by rw [t2]; rfl
        have HB := hid hB.size
        clear hc
        go_wp2_with (at_builtin; refine wpList_append_see _ rfl (.tmp 16) (.tmp 17) eltString rfl w.heap.size _ n (sts (wL s k)) rfl (O.alloc _) (some ⟨wr.heap.size, 0, none⟩) 1 1 (stC ⟨#[]⟩) rfl (see_new _ (stC ⟨#[]⟩) _ _ rfl) (by simp) rfl (stC_one _) (by unfold maxLen; omega) (by omega) (Nat.le_trans HB.out (by simp)) ?_; intro v4 w4 O4 G4 _)
        rw [show sts (wL s k) ++ stC ⟨#[]⟩ = sts (wL s (k + 1)) by rw [N.out]; simp [flat]] at O4
        have hB4 := (hB.alloc hB.size (.cells (stC ⟨#[]⟩).toArray 9)).grown G4 (Nat.le_trans HB.out (by simp)) (fun q hq => (O.lt q hq).1)
        obtain ⟨B4, d4, rfl, _⟩ := own_form O4
        clear O G4 hB
        go_wp2_with fail
        go_roundw
        case rel => exact ⟨k + 1, n + 1, d4, B4, by omega, by go_num, rfl, O4, hB4⟩
        case measure => simp [intOf]; omega
      · obtain ⟨us, x, e1, e2⟩ := wL_more hlt hc
        have t1 : (((s[k]'hlt).toNat : Int) == 32) = false := by
          rw [beq_eq_false_iff_ne]
          intro e
          apply hc
          rw [← UInt8.toNat_inj]
          exact Int.ofNat.inj e
        have hu : n = us.length + 1 := by have := HN.out; rw [e1] at this; simpa using this
        subst hu
        obtain ⟨g, rfl⟩ : ∃ g, C = some ⟨g, 0, none⟩ := by
          obtain ⟨A', c', hv, _, _, h3⟩ := own_form O
          injection hv with h4 _ _
          subst h4
          rcases h3 with rfl | ⟨g, h3, _⟩
          · obtain ⟨ad, y, hA2, _⟩ := (own_sl O).st (j := 0) (by omega)
            cases hA2
          · exact ⟨g, h3⟩
        obtain ⟨ad, y, hA2, hy, cy⟩ := (own_sl O).st (j := us.length) (by omega)
        injection hA2 with hA2
        subst hA2
        rw [e1] at O hy
        obtain rfl : y = x := by rw [List.getElem?_append_right (Nat.le_refl _), Nat.sub_self] at hy; injection hy with hy; exact hy.symm
        have hgb := (O.lt g rfl)
        have hsz : y.size + 1 ≤ 4294967296 := by have := wL_size (s := s) (k := k) (x := y) (by rw [e1]; simp); omega
        have N := hid e2
        have hk1 : (k : Int) + 1 ≤ 9223372036854775807 := by omega
        have hul : (us.length : Int) + 1 ≤ 9223372036854775807 := by omega
        have hex : (s.extract k (k + 1)).size = 1 := by rw [ext_one hlt]; rfl
        clear hy cy e1 e2 hc
        have hset := sts_set us y (y ++ s.extract k (k + 1))
        generalize hL : us.length = L at *
        have HSET := hid (show (sts (us ++ [y])).set L (.string (y ++ s.extract k (k + 1))) = sts (us ++ [y ++ s.extract k (k + 1)]) from hset)
        have HL2 := hid hL
        clear hset hL
        have hLi : (L : Int) < (L : Int) + 1 := by omega
        have hLw : -9223372036854775808 ≤ (L : Int) ∧ (L : Int) ≤ 9223372036854775807 := by omega
        have hks : 0 ≤ (k : Int) + 1 ∧ (k : Int) + 1 ≤ (s.size : Int) := by omega
        have hkk1 : (k : Int) ≤ (k : Int) + 1 := by omega
        have hkw : -9223372036854775808 ≤ (k : Int) + 1 ∧ (k : Int) + 1 ≤ 9223372036854775807 := by omega
        go_wp2_with fail
        refine wp_region_ghost (d := 17) (G := fun u => u.ownsRow w.heap.size 9 1 (.slice (some ⟨g, 0, none⟩) (L + 1) e') (L + 1) (sts (us ++ [y]))) (W := fun _ u => Below w.heap.size w u) (dead := fun _ _ => false) (Tr := fun i a b => TrW i a b) (F := fun i v w' => match i with
            | 0 => v = (.slice (some ⟨g, 0, none⟩) (L + 1) e')
            | 1 => v = (.slice (some ⟨g, 0, none⟩) (L + 1) e')
            | 2 => v = .int .i64 ((L : Int) + 1)
            | 3 => v = .int .i64 L
            | 4 => v = (.slice (some ⟨g, 0, none⟩) (L + 1) e')
            | 5 => v = (.slice (some ⟨g, 0, none⟩) (L + 1) e')
            | 6 => v = .int .i64 ((L : Int) + 1)
            | 7 => v = .int .i64 L
            | 8 => v = .pointer (some ⟨g, L, none⟩)
            | 9 => v = .string y
            | 10 => v = .string s
            | 11 => v = .int .i64 k
            | 12 => v = .int .i64 k
            | 13 => v = .int .i64 ((k : Int) + 1)
            | 14 => v = .string (s.extract k (k + 1))
            | 15 => v = .string (y ++ s.extract k (k + 1))
            | 16 => v = .pointer (some ⟨g, L, none⟩)
            | 17 => w'.ownsRow w.heap.size 9 1 (.slice (some ⟨g, 0, none⟩) (L + 1) e') (L + 1) (sts (us ++ [y ++ s.extract k (k + 1)]))
            | _ => True) (by kernel_rfl) (by kernel_rfl) (by kernel_rfl) ?_ O ?_ ?_ ?_ ?_
        · exact hB.drew
        · intro i kk a b hi hne hW hT hG
          rw [← hT.get hne]; exact hG
        · intro i j kk a b v hi hj hne hdd haa hW hT hF
          match j with
          | 0 => exact hF
          | 1 => exact hF
          | 2 => exact hF
          | 3 => exact hF
          | 4 => exact hF
          | 5 => exact hF
          | 6 => exact hF
          | 7 => exact hF
          | 8 => exact hF
          | 9 => exact hF
          | 10 => exact hF
          | 11 => exact hF
          | 12 => exact hF
          | 13 => exact hF
          | 14 => exact hF
          | 15 => exact hF
          | 16 => exact hF
          | 17 => have hT' : a = b := hT.get hne; subst hT'; exact hF
          | _ + 18 => trivial
        · refine ⟨fun kk ρ u hkk hc hf hb hW hd hgh => ?_, ?_⟩
          · exact yield_move _ rfl ⟨hb 3 (by kernel_rfl), hW, .inr rfl⟩
          refine ⟨fun kk ρ u hkk hc hf hb hW hd hgh => ?_, ?_⟩
          · exact yield_move _ rfl ⟨hb 3 (by kernel_rfl), hW, .inr rfl⟩
          refine ⟨fun kk ρ u hkk hc hf hb hW hd hgh => ?_, ?_⟩
          · have e0 : ρ (.tmp 20) = (.slice (some ⟨g, 0, none⟩) (L + 1) e') := hd.1 rfl rfl
            exact yield_value (w' := u) (.int .i64 ((L : Int) + 1)) (by simp [go_sem, hc, hf, e0]) ⟨rfl, hW, .inr rfl⟩
          refine ⟨fun kk ρ u hkk hc hf hb hW hd hgh => ?_, ?_⟩
          · have e0 : ρ (.tmp 21) = .int .i64 ((L : Int) + 1) := hd.1 rfl rfl
            exact yield_value (w' := u) (.int .i64 L) (by simp [go_sem, hc, hf, e0, IntWalk.i64_in, hLw, hkw]) ⟨rfl, hW, .inr rfl⟩
          refine ⟨fun kk ρ u hkk hc hf hb hW hd hgh => ?_, ?_⟩
          · exact yield_move _ rfl ⟨hb 3 (by kernel_rfl), hW, .inr rfl⟩
          refine ⟨fun kk ρ u hkk hc hf hb hW hd hgh => ?_, ?_⟩
          · exact yield_move _ rfl ⟨hb 3 (by kernel_rfl), hW, .inr rfl⟩
          refine ⟨fun kk ρ u hkk hc hf hb hW hd hgh => ?_, ?_⟩
          · have e0 : ρ (.tmp 24) = (.slice (some ⟨g, 0, none⟩) (L + 1) e') := hd.1 rfl rfl
            exact yield_value (w' := u) (.int .i64 ((L : Int) + 1)) (by simp [go_sem, hc, hf, e0]) ⟨rfl, hW, .inr rfl⟩
          refine ⟨fun kk ρ u hkk hc hf hb hW hd hgh => ?_, ?_⟩
          · have e0 : ρ (.tmp 25) = .int .i64 ((L : Int) + 1) := hd.1 rfl rfl
            exact yield_value (w' := u) (.int .i64 L) (by simp [go_sem, hc, hf, e0, IntWalk.i64_in, hLw, hkw]) ⟨rfl, hW, .inr rfl⟩
          refine ⟨fun kk ρ u hkk hc hf hb hW hd hgh => ?_, ?_⟩
          · have e0 : ρ (.tmp 23) = (.slice (some ⟨g, 0, none⟩) (L + 1) e') := hd.1 rfl rfl
            have e1 : ρ (.tmp 26) = .int .i64 L := hd.2.1 rfl rfl
            exact yield_value (w' := u) (.pointer (some ⟨g, L, none⟩)) (by simp [go_sem, hc, hf, e0, e1, IntWalk.i64_in, addr_own, hLi]) ⟨rfl, hW, .inr rfl⟩
          refine ⟨fun kk ρ u hkk hc hf hb hW hd hgh => ?_, ?_⟩
          · have e0 : ρ (.tmp 27) = .pointer (some ⟨g, L, none⟩) := hd.1 rfl rfl
            have O1 : u.ownsRow w.heap.size 9 1 (.slice (some ⟨g, 0, none⟩) (L + 1) e') (L + 1) (sts (us ++ [y])) := hgh (by kernel_rfl)
            obtain ⟨ad, y2, hA3, hy2, cy2⟩ := (own_sl O1).st (j := L) (by omega)
            injection hA3 with hA3
            subst hA3
            obtain rfl : y2 = y := by rw [← HL2.out, List.getElem?_append_right (Nat.le_refl _), Nat.sub_self] at hy2; injection hy2 with hy2; exact hy2.symm
            have cy3 : u.cell? ⟨g, L, none⟩ = some (.string y2) := by rw [addr_own] at cy2; exact cy2
            exact yield_value (w' := u) (.string y2) (by simp [go_sem, hc, hf, e0, cy3]) ⟨rfl, hW, .inr rfl⟩
          refine ⟨fun kk ρ u hkk hc hf hb hW hd hgh => ?_, ?_⟩
          · exact yield_move _ rfl ⟨hb 0 (by kernel_rfl), hW, .inr rfl⟩
          refine ⟨fun kk ρ u hkk hc hf hb hW hd hgh => ?_, ?_⟩
          · exact yield_move _ rfl ⟨hb 4 (by kernel_rfl), hW, .inr rfl⟩
          refine ⟨fun kk ρ u hkk hc hf hb hW hd hgh => ?_, ?_⟩
          · exact yield_move _ rfl ⟨hb 4 (by kernel_rfl), hW, .inr rfl⟩
          refine ⟨fun kk ρ u hkk hc hf hb hW hd hgh => ?_, ?_⟩
          · have e0 : ρ (.tmp 31) = .int .i64 k := hd.1 rfl rfl
            exact yield_value (w' := u) (.int .i64 ((k : Int) + 1)) (by simp [go_sem, hc, hf, e0, IntWalk.i64_in, hLw, hkw]) ⟨rfl, hW, .inr rfl⟩
          refine ⟨fun kk ρ u hkk hc hf hb hW hd hgh => ?_, ?_⟩
          · have e0 : ρ (.tmp 29) = .string s := hd.1 rfl rfl
            have e1 : ρ (.tmp 30) = .int .i64 k := hd.2.1 rfl rfl
            have e2 : ρ (.tmp 32) = .int .i64 ((k : Int) + 1) := hd.2.2.1 rfl rfl
            exact yield_value (w' := u) (.string (s.extract k (k + 1))) (by simp [go_sem, hc, hf, e0, e1, e2, IntWalk.i64_in, hLw, hkw, hks, hkk1]) ⟨rfl, hW, .inr rfl⟩
          refine ⟨fun kk ρ u hkk hc hf hb hW hd hgh => ?_, ?_⟩
          · have e0 : ρ (.tmp 28) = .string y := hd.1 rfl rfl
            have e1 : ρ (.tmp 33) = .string (s.extract k (k + 1)) := hd.2.1 rfl rfl
            exact yield_value (w' := u) (.string (y ++ s.extract k (k + 1))) (by simp [go_sem, hc, hf, e0, e1]; omega) ⟨rfl, hW, .inr rfl⟩
          refine ⟨fun kk ρ u hkk hc hf hb hW hd hgh => ?_, ?_⟩
          · have e0 : ρ (.tmp 19) = (.slice (some ⟨g, 0, none⟩) (L + 1) e') := hd.1 rfl rfl
            have e1 : ρ (.tmp 22) = .int .i64 L := hd.2.1 rfl rfl
            exact yield_value (w' := u) (.pointer (some ⟨g, L, none⟩)) (by simp [go_sem, hc, hf, e0, e1, IntWalk.i64_in, addr_own, hLi]) ⟨rfl, hW, .inr rfl⟩
          refine ⟨fun kk ρ u hkk hc hf hb hW hd hgh => ?_, ?_⟩
          · have O1 : u.ownsRow w.heap.size 9 1 (.slice (some ⟨g, 0, none⟩) (L + 1) e') (L + 1) (sts (us ++ [y])) := hgh (by kernel_rfl)
            have e0 : ρ (.tmp 35) = .pointer (some ⟨g, L, none⟩) := hd.1 rfl rfl
            have e1 : ρ (.tmp 34) = .string (y ++ s.extract k (k + 1)) := hd.2.1 rfl rfl
            obtain ⟨o0, ho0, hc0⟩ := own_old O1 (k := L) (by omega)
            have hf0 := O1.frozenAt L
            obtain ⟨S1, S2⟩ := O1.stored L (.string (y ++ s.extract k (k + 1)))
            rw [HSET.out] at S1
            unfold Yield
            simp [go_sem, hc, hf, e0, e1, hc0, hf0]
            exact ⟨S1, hW.grown S2 hW.size (fun q hq => (O1.lt q hq).1), .inl rfl⟩
          trivial
        intro env w5 hW hF
        have O5 : w5.ownsRow w.heap.size 9 1 (.slice (some ⟨g, 0, none⟩) (L + 1) e') (L + 1) (sts (us ++ [y ++ s.extract k (k + 1)])) := hF 17 (of_decide_eq_true (by kernel_rfl)) (fun i hi => rfl)
        clear hF O
        have hrng : List.range 37 = [0, 1, 2, 3, 4, 5, 6, 7, 8, 9, 10, 11, 12, 13, 14, 15, 16, 17, 18, 19, 20, 21, 22, 23, 24, 25, 26, 27, 28, 29, 30, 31, 32, 33, 34, 35, 36] := rfl
        unfold after
        simp only [List.size_toArray, List.length_cons, List.length_nil, Nat.reduceAdd, hrng, List.map_cons, List.map_nil]
        simp [idxOf, List.findIdx?, List.findIdx?.go]
        clear hrng
        rw [← N.out] at O5
        go_wp2_with fail
        refine ⟨?_, ?_⟩
        · (repeat apply Exists.intro)
          refine ⟨?_, rfl⟩
          exact ⟨k + 1, L + 1, e', _, by omega, by go_num, rfl, O5, hW⟩
        · simp [intOf]; omega
    · obtain rfl : k = s.size := by omega
      have t0 : decide ((s.size : Int) < (s.size : Int)) = false := by simp
      rw [wL_end] at O
      go_wp2_with fail
      go_ret
      exact ⟨C, n, e', rfl, O, hB⟩
end Go.Proofs.YtoagpfdhbcgdcaaDoor
