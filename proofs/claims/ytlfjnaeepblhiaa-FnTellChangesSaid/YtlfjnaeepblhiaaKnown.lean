/- The contract of KnownKeys, the program's. -/
import Derived.Test.YtlfjnaeepblhiaaHeard
import Derived.Test.YtlfjnaeepblhiaaDelF
import Derived.BigQuiet
namespace Go.Proofs.Ytlfjnaeepblhiaa
open Go.RowKit
set_option linter.unusedVariables false
set_option linter.unusedSimpArgs false
/-- What one activity does to the keys. -/
def kStep (ks : List St) (x : Ac) : List St := if x.1 = 2 then delK ks x.2.2.2.2 else if x.1 = 0 ∨ x.1 = 1 then (if hasK ks x.2.2.2.2 = true then ks else ks ++ [x.2.2.2.2]) else ks
section
variable {ks : List St} {f : Int} {a b s : ByteArray}
theorem kStep_del : kStep ks (2, f, a, b, s) = delK ks s := by unfold kStep; rw [if_pos rfl]
theorem kStep_has {e : Int} (h : e = 0 ∨ e = 1) (hh : hasK ks s = true) : kStep ks (e, f, a, b, s) = ks := by
  unfold kStep; rw [if_neg (by show ¬ e = 2; omega), if_pos (show e = 0 ∨ e = 1 from h), if_pos hh]
theorem kStep_new {e : Int} (h : e = 0 ∨ e = 1) (hh : hasK ks s = false) : kStep ks (e, f, a, b, s) = ks ++ [s] := by
  unfold kStep; rw [if_neg (by show ¬ e = 2; omega), if_pos (show e = 0 ∨ e = 1 from h), if_neg (by rw [hh]; simp)]
theorem kStep_not {e : Int} (h0 : ¬ e = 0) (h1 : ¬ e = 1) (h2 : ¬ e = 2) : kStep ks (e, f, a, b, s) = ks := by
  unfold kStep; rw [if_neg h2, if_neg (show ¬ (e = 0 ∨ e = 1) by omega)]
end
def knownTo (keys : List St) (xs : List Ac) (k : Nat) : List St := (xs.take k).foldl kStep keys
theorem knownTo_next {keys : List St} {xs : List Ac} {k : Nat} {x : Ac} (h : xs[k]? = some x) : knownTo keys xs (k + 1) = kStep (knownTo keys xs k) x := by
  unfold knownTo; rw [List.take_add_one, h, List.foldl_append]; rfl
/-- The keys that are known in the end. -/
@[irreducible] def knownV (keys : List St) (xs : List Ac) : List St := if heardV xs = true then xs.foldl kStep keys else []
theorem known_no {keys : List St} {xs : List Ac} (h : heardV xs = false) : knownV keys xs = [] := by unfold knownV; rw [h]; rfl
theorem known_yes {keys : List St} {xs : List Ac} (h : heardV xs = true) : knownV keys xs = knownTo keys xs xs.length := by unfold knownV knownTo; rw [if_pos h, List.take_length]
theorem delK_len {ks : List St} {s : ByteArray} (h : hasK ks s = true) : ¬ (delK ks s).length = ks.length := by
  intro e
  unfold hasK at h
  rw [List.any_eq_true] at h
  obtain ⟨x, hx, hs⟩ := h
  have := List.length_filter_eq_length_iff.1 e x hx
  rw [hs] at this; cases this
theorem delK_id {ks : List St} {s : ByteArray} (h : hasK ks s = false) : delK ks s = ks := by
  unfold delK
  rw [List.filter_eq_self]
  intro x hx
  unfold hasK at h
  rw [List.any_eq_false] at h
  simpa using h x hx
set_option maxHeartbeats 2000000 in
set_option maxRecDepth 4000 in
theorem knownI_any (B : Option Addr) (m d : Nat) (keys : List St) (A : Option Addr) (n c : Nat) (xs : List Ac) (w : World) (hk : Sl w B m d 1 (sts keys)) (h : Sl w A n c 5 (acs xs)) (hok : acOk xs) (hm : m ≤ 1048576) :
    Calls Try.prog 18 #[.slice B m d, .slice A n c] w fun e w' => ∃ B' m' d', e = .returned (.slice B' m' d') ∧ w'.ownsRow w.heap.size 9 1 (.slice B' m' d') m' (sts (knownV keys xs)) ∧ Below w.heap.size w w' := by
  have hlx : xs.length = n := h.count acC_len (by omega)
  have hmx := h.max
  have hcx := h.cap
  unfold maxLen at hmx
  have HOK := hid hok
  clear hok
  go_enter Try.func18, Try.ntmps18
  go_wp2_with fail
  refine (heardI_any _ _ _ xs _ h HOK.out).mono ?_
  rintro e1 w1 ⟨rfl, x1⟩
  cases hv : heardV xs with
  | false =>
    have R := hid (known_no (keys := keys) hv)
    clear hv
    go_wp2_with fail
    go_ret
    exact ⟨none, 0, 0, rfl, by rw [R.out]; exact World.ownsRow_nil _ _ _ _, x1.below⟩
  | true =>
    have R := hid (known_yes (keys := keys) hv)
    have hn : n ≤ 30 := by have := (heard_len hv).1; omega
    have hB1 := x1.below
    have hk1 := hk.ext x1
    clear hv x1 hk
    go_wp2_with fail
    refine (copyString_any _ _ _ keys _ hk1 hm).mono ?_
    rintro e1 w2 ⟨B2, d2, rfl, O2, b2⟩
    have O2 := own_lower O2 hB1.size
    have hB2 := below_next hB1 b2
    clear hk1 b2 hB1
    go_wp2_with fail
    go_loopw [5, 15] (fun v i wr => ∃ (k m' d' : Nat) (B' : Option Addr) (ks : List St), k ≤ n ∧ i = .int .i64 k ∧ v = .slice B' m' d' ∧ wr.ownsRow w.heap.size 9 1 (.slice B' m' d') m' (sts ks) ∧ Hid (ks = knownTo keys xs k) ∧ m' ≤ m + k ∧ Below w.heap.size w wr) (fun _ i _ => n - (intOf i).toNat)
    case atStart => exact ⟨0, _, _, _, _, Nat.zero_le _, rfl, rfl, O2, rfl, Nat.le_refl _, hB2⟩
    case round =>
      clear O2 hB2
      obtain ⟨k, m', d', B', ks, hk, rfl, rfl, O, hks, hm', hB⟩ := hrel
      by_cases hlt : k < n
      · obtain ⟨ad, e, f, a, b, s, rfl, hab, c0, c1, c2, c3, c4⟩ := (h.below hB).ac hlt
        have N := hid (knownTo_next (keys := keys) hab)
        rw [← hks.out] at N
        have hcl : (wr.alloc (Obj.cells #[Value.int IntKind.i64 e, Value.int IntKind.i64 f, Value.string a, Value.string b, Value.string s] 29)).heap[wr.heap.size]? = some (.cells #[Value.int IntKind.i64 e, Value.int IntKind.i64 f, Value.string a, Value.string b, Value.string s] 29 (0, 0)) := alloc_new' rfl
        have d0 := cell_of_row _ wr.heap.size 0 _ _ _ hcl
        have d4 := cell_of_row _ wr.heap.size 4 _ _ _ hcl
        have O1 := O.alloc (Obj.cells #[Value.int IntKind.i64 e, Value.int IntKind.i64 f, Value.string a, Value.string b, Value.string s] 29)
        have hB3 := hB.alloc hB.size (Obj.cells #[Value.int IntKind.i64 e, Value.int IntKind.i64 f, Value.string a, Value.string b, Value.string s] 29)
        have hne : (Value.slice B' m' d').ownBlock ≠ some wr.heap.size := fun e => by have := (O.lt _ e).2; omega
        clear hab hks O hcl
        have tail01 : ∀ (hkind : e = 0 ∨ e = 1), hasK ks s = true → knownTo keys xs (k + 1) = ks := fun hkind hh => N.out.trans (kStep_has hkind hh)
        have tail02 : ∀ (hkind : e = 0 ∨ e = 1), hasK ks s = false → knownTo keys xs (k + 1) = ks ++ [s] := fun hkind hh => N.out.trans (kStep_new hkind hh)
        have HT := hid (And.intro tail01 tail02)
        clear tail01 tail02
        rcases (show e = 0 ∨ e = 1 ∨ e = 2 ∨ (¬ e = 0 ∧ ¬ e = 1 ∧ ¬ e = 2) by omega) with he | he | he | ⟨e0, e1, e2⟩
        · have z0 : (e == 0) = true := by simp; omega
          have HK := hid (show e = 0 ∨ e = 1 by omega)
          clear he
          go_wp2_with fail
          generalize hW : wr.alloc (Obj.cells #[Value.int IntKind.i64 e, Value.int IntKind.i64 f, Value.string a, Value.string b, Value.string s] 29) = W at *
          clear hW
          refine (conts_any _ _ _ ks s _ (own_sl O1)).mono ?_
          rintro e1 w3 ⟨rfl, rfl⟩
          cases hh : hasK ks s with
          | true =>
            have N2 := hid (HT.out.1 HK.out hh).symm
            clear hh HT N
            go_wp2_with fail
            go_roundw
            case rel => exact ⟨k + 1, m', d', B', ks, by omega, by go_num, rfl, O1, N2, by omega, hB3⟩
            case measure => simp [intOf]; omega
          | false =>
            have N2 := hid (HT.out.2 HK.out hh).symm
            have HB := hid (show w.heap.size ≤ (W.alloc (.cells (stC s).toArray 9)).heap.size from Nat.le_trans hB3.size (by simp))
            clear hh HT N
            go_wp2_with (at_builtin; refine wpList_append_see _ rfl (.tmp 29) (.tmp 32) eltString rfl w.heap.size _ m' (sts ks) rfl (O1.alloc _) (some ⟨W.heap.size, 0, none⟩) 1 1 (stC s) rfl (see_new _ (stC s) _ _ rfl) (by simp) rfl (stC_one _) (by unfold maxLen; omega) (by omega) HB.out ?_; intro v4 w4 O4 G4 _)
            rw [show sts ks ++ stC s = sts (ks ++ [s]) by simp [flat]] at O4
            have hB4 := (hB3.alloc hB3.size (.cells (stC s).toArray 9)).grown G4 HB.out (fun q hq => (O1.lt q hq).1)
            obtain ⟨B4, d4', rfl, _⟩ := own_form O4
            clear O1 G4 hB3
            go_wp2_with fail
            go_roundw
            case rel => exact ⟨k + 1, m' + 1, d4', B4, ks ++ [s], by omega, by go_num, rfl, O4, N2, by omega, hB4⟩
            case measure => simp [intOf]; omega
        · have z0 : (e == 0) = false := by simp; omega
          have z1 : (e == 1) = true := by simp; omega
          have HK := hid (show e = 0 ∨ e = 1 by omega)
          clear he
          go_wp2_with fail
          generalize hW : wr.alloc (Obj.cells #[Value.int IntKind.i64 e, Value.int IntKind.i64 f, Value.string a, Value.string b, Value.string s] 29) = W at *
          clear hW
          refine (conts_any _ _ _ ks s _ (own_sl O1)).mono ?_
          rintro e1 w3 ⟨rfl, rfl⟩
          cases hh : hasK ks s with
          | true =>
            have N2 := hid (HT.out.1 HK.out hh).symm
            clear hh HT N
            go_wp2_with fail
            go_roundw
            case rel => exact ⟨k + 1, m', d', B', ks, by omega, by go_num, rfl, O1, N2, by omega, hB3⟩
            case measure => simp [intOf]; omega
          | false =>
            have N2 := hid (HT.out.2 HK.out hh).symm
            have HB := hid (show w.heap.size ≤ (W.alloc (.cells (stC s).toArray 9)).heap.size from Nat.le_trans hB3.size (by simp))
            clear hh HT N
            go_wp2_with (at_builtin; refine wpList_append_see _ rfl (.tmp 29) (.tmp 32) eltString rfl w.heap.size _ m' (sts ks) rfl (O1.alloc _) (some ⟨W.heap.size, 0, none⟩) 1 1 (stC s) rfl (see_new _ (stC s) _ _ rfl) (by simp) rfl (stC_one _) (by unfold maxLen; omega) (by omega) HB.out ?_; intro v4 w4 O4 G4 _)
            rw [show sts ks ++ stC s = sts (ks ++ [s]) by simp [flat]] at O4
            have hB4 := (hB3.alloc hB3.size (.cells (stC s).toArray 9)).grown G4 HB.out (fun q hq => (O1.lt q hq).1)
            obtain ⟨B4, d4', rfl, _⟩ := own_form O4
            clear O1 G4 hB3
            go_wp2_with fail
            go_roundw
            case rel => exact ⟨k + 1, m' + 1, d4', B4, ks ++ [s], by omega, by go_num, rfl, O4, N2, by omega, hB4⟩
            case measure => simp [intOf]; omega
        · have z0 : (e == 0) = false := by simp; omega
          have z1 : (e == 1) = false := by simp; omega
          have z2 : (e == 2) = true := by simp; omega
          have N2 := hid (show delK ks s = knownTo keys xs (k + 1) by rw [N.out, he, kStep_del])
          clear he HT N
          have hp : wr.heap.size < (wr.alloc (Obj.cells #[Value.int IntKind.i64 e, Value.int IntKind.i64 f, Value.string a, Value.string b, Value.string s] 29)).heap.size := by simp
          go_wp2_with fail
          generalize hW : wr.alloc (Obj.cells #[Value.int IntKind.i64 e, Value.int IntKind.i64 f, Value.string a, Value.string b, Value.string s] 29) = W at *
          clear hW
          have D := delF_any W B' m' d' w.heap.size wr.heap.size ks s (by omega) O1 hp hne d4
          have HS := hid hB3.size
          have HO := hid O1.lt
          clear hp hne O1
          refine D.mono ?_
          rintro e1 w3 ⟨m3, rfl, hm3, O3, G3⟩
          have hB4 := hB3.grown G3 HS.out (fun q hq => (HO.out q hq).1)
          clear hB3 G3 D
          go_wp2_with fail
          go_roundw
          case rel => exact ⟨k + 1, m3, d', B', _, by omega, by go_num, rfl, O3, N2, by omega, hB4⟩
          case measure => simp [intOf]; omega
        · have z0 : (e == 0) = false := by simp; omega
          have z1 : (e == 1) = false := by simp; omega
          have z2 : (e == 2) = false := by simp; omega
          have N2 := hid (show ks = knownTo keys xs (k + 1) by rw [N.out, kStep_not e0 e1 e2])
          clear e0 e1 e2 HT N
          go_wp2_with fail
          go_roundw
          case rel => exact ⟨k + 1, m', d', B', ks, by omega, by go_num, rfl, O1, N2, by omega, hB3⟩
          case measure => simp [intOf]; omega
      · obtain rfl : k = n := by omega
        rw [hlx, ← hks.out] at R
        go_wp2_with fail
        go_ret
        exact ⟨B', m', d', rfl, by rw [R.out]; exact O, hB⟩
end Go.Proofs.Ytlfjnaeepblhiaa
