/- The contract of GoneKeys, the reference's. -/
import Derived.Test.YtlfjnaeepblhiaaChangeS
import Derived.Test.YtlfjnaeepblhiaaTellV
import Derived.Test.YtlfjnaeepblhiaaStringMem
namespace Go.Proofs.Ytlfjnaeepblhiaa
open Go.RowKit
set_option linter.unusedVariables false
set_option linter.unusedSimpArgs false
theorem keysTo_next {zs : List Im} {k : Nat} {a b s : ByteArray} {f : Int} (h : zs[k]? = some (a, b, s, f)) : keysOf (zs.take (k + 1)) = keysOf (zs.take k) ++ [a] := by
  unfold keysOf; rw [List.take_add_one, h]; simp
set_option maxRecDepth 4000 in
set_option maxHeartbeats 4000000 in
theorem goneS_any (A : Option Addr) (n c : Nat) (xs : List Im) (B : Option Addr) (m d : Nat) (ys : List Im) (w : World) (h : Sl w A n c 4 (ims xs)) (hx : imOk xs) (h' : Sl w B m d 4 (ims ys)) (hy : imOk ys) :
    Calls Try.prog 69 #[.slice A n c, .slice B m d] w fun e w' => ∃ C q e', e = .returned (.slice C q e') ∧ w'.ownsRow w.heap.size 9 1 (.slice C q e') q (sts (goneV xs ys)) ∧ Below w.heap.size w w' := by
  have C1 := fun W (S : Sl W A n c 4 (ims xs)) (S' : Sl W B m d 4 (ims ys)) => newS_any B m d ys A n c xs W S' hy S hx
  have R := hid (show goneV xs ys = keysOf (newV ys xs) by unfold goneV; rfl)
  have hLE := new_le (xs := ys) (ys := xs)
  have O0 := own_empty w 9 1
  have hB0 : Below w.heap.size w (w.alloc (.cells #[] 9)) := (Below.refl _ _).alloc (Nat.le_refl _) _
  clear hx hy
  go_enter Try.func69, Try.ntmps69
  go_wp2_with fail
  generalize hW : w.alloc (.cells #[] 9) = W at *
  have hWs : w.heap.size < W.heap.size := by rw [← hW]; simp
  clear hW
  refine (C1 W (h.below hB0) (h'.below hB0)).mono ?_
  rintro e w1 ⟨D, n1, d1, rfl, O1, b1⟩
  have HS := hid (fun k (e : (Value.slice D n1 d1).ownBlock = some k) => (O1.lt k e).1)
  have O0 := own_below O0 b1
  have O1 := own_lower O1 hB0.size
  have hB1 := below_next hB0 b1
  have HQ := hid (fun k (e : (Value.slice (some ⟨w.heap.size, 0, none⟩) 0 0).ownBlock = some k) => O0.lt k e)
  have hlz := own_count O1 imC_len (by omega)
  have HZ := hid hlz
  have hq8 : n1 ≤ 8 := by omega
  have hsep : ∀ k, (Value.slice (some ⟨w.heap.size, 0, none⟩) 0 0).ownBlock = some k → (Value.slice D n1 d1).ownBlock ≠ some k := by
    intro k e e'
    have := HS.out k e'
    simp [Value.ownBlock] at e
    subst e
    omega
  clear hlz hLE b1 hB0 h h' C1 HS HQ hWs
  generalize newV ys xs = us at *
  go_wp2_with fail
  go_loopw [5, 7] (fun v i wr => ∃ (k q e' : Nat) (C : Option Addr) (zs : List ByteArray), k ≤ n1 ∧ i = .int .i64 k ∧ v = .slice C q e' ∧ wr.ownsRow w.heap.size 9 1 (.slice C q e') q (sts zs) ∧ wr.ownsRow w.heap.size 57 4 (.slice D n1 d1) n1 (ims us) ∧ Hid (zs = keysOf (us.take k)) ∧ q ≤ k ∧ Hid (∀ k, (Value.slice C q e').ownBlock = some k → (Value.slice D n1 d1).ownBlock ≠ some k) ∧ Below w.heap.size w wr) (fun _ i _ => n1 - (intOf i).toNat)
  case atStart => exact ⟨0, 0, 0, _, [], Nat.zero_le _, rfl, rfl, O0, O1, rfl, Nat.le_refl _, hsep, hB1⟩
  case round =>
    clear O0 O1 hB1 hsep
    obtain ⟨k, q, e', C, zs, hk, rfl, rfl, O, U, hzs, hqk, hsep, hB⟩ := hrel
    by_cases hlt : k < n1
    · obtain ⟨ad, a, b, s, f, hA, hab, c0, c1, c2, c3⟩ := (own_sl U).im hlt
      subst hA
      have N := hid (keysTo_next hab)
      rw [← hzs.out] at N
      have HB := hid hB.size
      clear hzs hab
      go_wp2_with (at_builtin; refine wpList_append_see _ rfl (.tmp 18) (.tmp 24) eltString rfl w.heap.size _ q (sts zs) rfl (O.alloc _) (some ⟨wr.heap.size, 0, none⟩) 1 1 (stC a) rfl (see_new _ (stC a) _ _ rfl) (by simp) rfl (stC_one _) (by unfold maxLen; omega) (by omega) (Nat.le_trans HB.out (by simp)) ?_; intro v4 w4 O4 G4 H4)
      rw [show sts zs ++ stC a = sts (zs ++ [a]) by simp [flat]] at O4
      have hB4 := (hB.alloc hB.size (.cells (stC a).toArray 9)).grown G4 (Nat.le_trans HB.out (by simp)) (fun q hq => (O.lt q hq).1)
      have U4 := (U.alloc (.cells (stC a).toArray 9)).kept G4 (by
        cases e : (Value.slice (some ad) n1 d1).ownBlock with
        | none => exact .inl rfl
        | some j => exact .inr fun e2 => hsep.out j e2.symm e)
      have HX : Hid (∀ k, v4.ownBlock = some k → (Value.slice (some ad) n1 d1).ownBlock ≠ some k) := fun j e e2 => by
        rcases H4 with e3 | e3
        · exact hsep.out j (e3.symm.trans e) e2
        · rw [e3] at e; injection e with e; have := (U.lt j e2).2; simp at e; omega
      obtain ⟨B4, d4', rfl, _⟩ := own_form O4
      clear O U G4 H4 hB hsep
      go_wp2_with fail
      go_roundw
      case rel => exact ⟨k + 1, q + 1, d4', B4, zs ++ [a], by omega, by go_num, rfl, O4, U4, N.out.symm, by omega, HX, hB4⟩
      case measure => simp [intOf]; omega
    · have hke : k = n1 := by omega
      have N := hid (show goneV xs ys = zs by rw [R.out, hzs.out, hke, HZ.out, List.take_length])
      have t0 : decide ((k : Int) < (n1 : Int)) = false := by simp; omega
      clear hzs hke
      go_wp2_with fail
      go_ret
      exact ⟨C, q, e', rfl, by rw [N.out]; exact O, hB⟩
end Go.Proofs.Ytlfjnaeepblhiaa
