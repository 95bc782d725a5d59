/- The contract of GoneKeys, the program's. -/
import Derived.Test.YtlfjnaeepblhiaaChangeI
import Derived.Test.YtlfjnaeepblhiaaStringMem
namespace Go.Proofs.Ytlfjnaeepblhiaa
open Go.RowKit
set_option linter.unusedVariables false
set_option linter.unusedSimpArgs false
theorem gone_no {xs ys : List Im} (h : ¬ (fdV xs = true ∧ fdV ys = true)) : goneV xs ys = [] := by unfold goneV; rw [new_no (fun e => h ⟨e.2, e.1⟩)]; rfl
theorem gone_yes {xs ys : List Im} (h : fdV xs = true ∧ fdV ys = true) : goneV xs ys = keysOf (newTo ys xs xs.length) := by unfold goneV; rw [new_yes ⟨h.2, h.1⟩]
set_option maxRecDepth 4000 in
set_option maxHeartbeats 4000000 in
theorem goneI_any (A : Option Addr) (n c : Nat) (xs : List Im) (B : Option Addr) (m d : Nat) (ys : List Im) (w : World) (h : Sl w A n c 4 (ims xs)) (hx : imOk xs) (h' : Sl w B m d 4 (ims ys)) (hy : imOk ys) :
    Calls Try.prog 63 #[.slice A n c, .slice B m d] w fun e w' => ∃ C q e', e = .returned (.slice C q e') ∧ w'.ownsRow w.heap.size 9 1 (.slice C q e') q (sts (goneV xs ys)) ∧ Below w.heap.size w w' := by
  have hl : xs.length = n := h.count imC_len (by omega)
  have HL := hid hl
  have C1 := fun W (S : Sl W A n c 4 (ims xs)) => fdI_any A n c xs W S hx
  have C2 := fun W (S : Sl W B m d 4 (ims ys)) => fdI_any B m d ys W S hy
  have C3 := fun W key (S : Sl W B m d 4 (ims ys)) => numI_any B m d ys key W S
  clear hx hy hl
  go_enter Try.func63, Try.ntmps63
  go_wp2_with fail
  refine (C1 _ h).mono ?_
  rintro e w1 ⟨rfl, x1⟩
  cases hv : fdV xs with
  | false =>
    have R := hid (gone_no (xs := xs) (ys := ys) (by rw [hv]; simp))
    clear hv
    go_wp2_with fail
    go_ret
    exact ⟨none, 0, 0, rfl, by rw [R.out]; exact World.ownsRow_nil _ _ _ _, x1.below⟩
  | true =>
    go_wp2_with fail
    refine (C2 _ (h'.ext x1)).mono ?_
    rintro e w2 ⟨rfl, x2⟩
    have hE := x1.trans x2
    clear x1 x2
    cases hv' : fdV ys with
    | false =>
      have R := hid (gone_no (xs := xs) (ys := ys) (by rw [hv']; simp))
      clear hv hv'
      go_wp2_with fail
      go_ret
      exact ⟨none, 0, 0, rfl, by rw [R.out]; exact World.ownsRow_nil _ _ _ _, hE.below⟩
    | true =>
      have R := hid (gone_yes (xs := xs) (ys := ys) ⟨hv, hv'⟩)
      have hm8 : n ≤ 8 := by have := (fd_parts hv).1; have := HL.out; omega
      clear hv hv' C1 C2
      have hB := hE.below
      clear hE
      go_wp2_with fail
      go_loopw [5, 18] (fun v i wr => ∃ (k q e' : Nat) (C : Option Addr) (zs : List St), k ≤ n ∧ i = .int .i64 k ∧ v = .slice C q e' ∧ wr.ownsRow w.heap.size 9 1 (.slice C q e') q (sts zs) ∧ Hid (zs = keysOf (newTo ys xs k)) ∧ q ≤ k ∧ Below w.heap.size w wr) (fun _ i _ => n - (intOf i).toNat)
      case atStart => exact ⟨0, 0, 0, none, [], Nat.zero_le _, rfl, rfl, World.ownsRow_nil _ _ _ _, rfl, Nat.le_refl _, hB⟩
      case round =>
        clear hB
        obtain ⟨k, q, e', C, zs, hk, rfl, rfl, O, hzs, hqk, hB⟩ := hrel
        by_cases hlt : k < n
        · obtain ⟨ad, a, b, s, f, rfl, hab, c0, c1, c2, c3⟩ := (h.below hB).im hlt
          have hc : (wr.alloc (.cells #[.string a, .string b, .string s, .int .i64 f] 57)).heap[wr.heap.size]? = some (.cells #[.string a, .string b, .string s, .int .i64 f] 57 (0, 0)) := alloc_new' rfl
          have O1 := O.alloc (.cells #[.string a, .string b, .string s, .int .i64 f] 57)
          have hB1 := hB.alloc hB.size (.cells #[.string a, .string b, .string s, .int .i64 f] 57)
          have d0 := cell_of_row _ wr.heap.size 0 _ _ _ hc
          go_wp2_with fail
          generalize wr.alloc (.cells #[.string a, .string b, .string s, .int .i64 f] 57) = W at *
          generalize wr.heap.size = g at *
          refine (C3 _ a (h'.below hB1)).mono ?_
          rintro e w3 ⟨rfl, x3⟩
          have O2 := own_ext O1 x3
          have hB2 := below_next hB1 x3.below
          replace hc := (x3.block (Array.getElem?_eq_some_iff.1 hc).1).trans hc
          clear O O1 hB1 x3 c0 c1 c2 c3 d0
          have d0 := cell_of_row _ g 0 _ _ _ hc
          have d1 := cell_of_row _ g 1 _ _ _ hc
          have d2 := cell_of_row _ g 2 _ _ _ hc
          have d3 := cell_of_row _ g 3 _ _ _ hc
          by_cases hneg : numV ys a < 0
          · have N := hid (congrArg keysOf (newTo_yes (xs := ys) hab (by rw [isNew_num]; exact decide_eq_true hneg)))
            rw [show keysOf (newTo ys xs k ++ [(a, b, s, f)]) = keysOf (newTo ys xs k) ++ [a] by simp [keysOf], ← hzs.out] at N
            clear hzs hab hc
            generalize numV ys a = r at *
            have HB := hid hB2.size
            go_wp2_with (at_builtin; refine wpList_append_see _ rfl (.tmp 27) (.tmp 30) eltString rfl w.heap.size _ q (sts zs) rfl (O2.alloc _) (some ⟨w3.heap.size, 0, none⟩) 1 1 (stC a) rfl (see_new _ (stC a) _ _ rfl) (by simp) rfl (stC_one _) (by unfold maxLen; omega) (by omega) (Nat.le_trans HB.out (by simp)) ?_; intro v4 w4 O4 G4 _)
            rw [show sts zs ++ stC a = sts (zs ++ [a]) by simp [flat]] at O4
            have hB4 := (hB2.alloc hB2.size (.cells (stC a).toArray 9)).grown G4 (Nat.le_trans HB.out (by simp)) (fun q hq => (O2.lt q hq).1)
            obtain ⟨B4, d4', rfl, _⟩ := own_form O4
            clear O2 G4 hB2
            go_wp2_with fail
            go_roundw
            case rel => exact ⟨k + 1, q + 1, d4', B4, zs ++ [a], by omega, by go_num, rfl, O4, N.out.symm, by omega, hB4⟩
            case measure => simp [intOf]; omega
          · have N := hid (congrArg keysOf (newTo_no (xs := ys) hab (by rw [isNew_num]; exact decide_eq_false hneg)))
            rw [← hzs.out] at N
            clear hzs hab hc
            generalize numV ys a = r at *
            go_wp2_with fail
            go_roundw
            case rel => exact ⟨k + 1, q, e', C, zs, by omega, by go_num, rfl, O2, N.out.symm, by omega, hB2⟩
            case measure => simp [intOf]; omega
        · obtain rfl : k = n := by omega
          have N := hid (show goneV xs ys = zs by rw [R.out, HL.out]; exact hzs.out.symm)
          have t0 : decide ((k : Int) < (k : Int)) = false := by simp
          clear hzs
          go_wp2_with fail
          go_ret
          exact ⟨C, q, e', rfl, by rw [N.out]; exact O, hB⟩
end Go.Proofs.Ytlfjnaeepblhiaa
