/- slices.Index, Contains, DeleteFunc at strings. -/
import Derived.Test.YtlfjnaeepblhiaaStringMem
import Derived.Test.YtlfjnaeepblhiaaHandle
import Derived.Shelf.SlicesE.DeleteFunc
import Derived.Lib.OwnBridge
namespace Go.Proofs.Ytlfjnaeepblhiaa
open Go.RowKit Go.Shelf Go.Lib Go.Sort
set_option linter.unusedVariables false
set_option linter.unusedSimpArgs false
def hasK (zs : List St) (x : ByteArray) : Bool := zs.any fun y => y.toList == x.toList
def delK (xs : List St) (key : ByteArray) : List St := xs.filter fun x => !(x.toList == key.toList)
theorem hasK_at {zs : List St} {x : ByteArray} {k : Nat} (h : zs[k]? = some x) : hasK zs x = true := by
  unfold hasK; rw [List.any_eq_true]; exact ⟨x, List.mem_of_getElem? h, by simp⟩
theorem hasK_next {zs : List St} {x y : ByteArray} {k : Nat} (h : zs[k]? = some y) (hn : hasK (zs.take k) x = false) (he : (x.toList == y.toList) = false) : hasK (zs.take (k + 1)) x = false := by
  unfold hasK at hn ⊢
  rw [List.take_add_one, h, List.any_append, hn]
  have : (y.toList == x.toList) = false := by rw [beq_eq_false_iff_ne] at he ⊢; exact fun e => he e.symm
  simp [this]
theorem idxs_any (B : Option Addr) (m d : Nat) (zs : List St) (x : ByteArray) (w : World) (h : Sl w B m d 1 (sts zs)) :
    Calls Try.prog 79 #[.slice B m d, .string x] w fun e w' => ∃ r : Int, e = .returned (.int .i64 r) ∧ decide (0 ≤ r) = hasK zs x ∧ w = w' := by
  have hl : zs.length = m := h.count stC_len (by omega)
  have hmx := h.max
  have hcx := h.cap
  unfold maxLen at hmx
  have HL := hid hl
  clear hl
  go_enter Try.func79, Try.ntmps79
  go_wp2
  go_loopw [8] (fun i wr => ∃ (k : Nat), k ≤ m ∧ i = .int .i64 k ∧ wr = w ∧ Hid (hasK (zs.take k) x = false)) (fun i _ => m - (intOf i).toNat)
  case atStart => exact ⟨0, Nat.zero_le _, rfl, rfl, by show hasK [] x = false; rfl⟩
  case round =>
    obtain ⟨k, hk, rfl, rfl, hno⟩ := hrel
    by_cases hlt : k < m
    · obtain ⟨ad, y, rfl, hy, c0⟩ := h.st hlt
      cases he : (x.toList == y.toList) with
      | true =>
        have R := hid (show decide ((0 : Int) ≤ (k : Int)) = hasK zs x by
          have : x = y := by rw [bytes_eq] at he; exact of_decide_eq_true he
          subst this
          rw [hasK_at hy]; simp)
        clear hy hno
        go_wp2
        go_ret
        exact ⟨_, rfl, R.out, rfl⟩
      | false =>
        have N := hid (hasK_next hy hno.out he)
        clear hy hno
        go_wp2
        go_roundw
        case rel => exact ⟨k + 1, by omega, by go_num, trivial, N⟩
        case measure => simp [intOf]; omega
    · obtain rfl : k = m := by omega
      have R := hid (show decide ((0 : Int) ≤ -1) = hasK zs x by have h1 := hno.out; rw [← HL.out, List.take_length] at h1; rw [h1]; rfl)
      clear hno
      go_wp2
      go_ret
      exact ⟨_, rfl, R.out, rfl⟩
theorem conts_any (B : Option Addr) (m d : Nat) (zs : List St) (x : ByteArray) (w : World) (h : Sl w B m d 1 (sts zs)) :
    Calls Try.prog 53 #[.slice B m d, .string x] w fun e w' => e = .returned (.bool (hasK zs x)) ∧ w = w' := by
  go_enter Try.func53, Try.ntmps53
  go_wp2_with fail
  refine (idxs_any B m d zs x w h).mono ?_
  rintro e w1 ⟨r, rfl, hr, rfl⟩
  have HR := hid hr
  clear hr
  go_wp2
  go_ret
  exact ⟨ret_bool HR.out, rfl⟩
def Try.ldel_ren : Go.Shelf.Ren := ⟨fun | 10 => 54 | 6 => 80 | n => n, fun | 22 => 40 | 23 => 9 | 25 => 74 | 3 => 3 | 4 => 4 | 0 => 0 | n => n, fun | n => n⟩
theorem Try.ldel : Go.Proofs.SlLaysH.n10 Try.prog Try.ldel_ren := {
  mixed := by kernel_rfl
  f6 := ⟨Try.f80.name, by decide, Try.func80.trans (congrArg some (by kernel_rfl))⟩
  f10 := ⟨Try.f54.name, by decide, Try.func54.trans (congrArg some (by kernel_rfl))⟩
  t0 := Try.underlying0
  a0 := Try.isAgg0
  z0 := Try.sizeOf0
  v0 := Try.zeroValue0
  t3 := Try.underlying3
  a3 := Try.isAgg3
  z3 := Try.sizeOf3
  v3 := Try.zeroValue3
  t4 := Try.underlying4
  a4 := Try.isAgg4
  z4 := Try.sizeOf4
  v4 := Try.zeroValue4
  t22 := Try.underlying40
  a22 := Try.isAgg40
  z22 := Try.sizeOf40
  v22 := Try.zeroValue40
  a23 := Try.isAgg9
  z23 := Try.sizeOf9
  t25 := Try.underlying74
  a25 := Try.isAgg74
  z25 := Try.sizeOf74
  v25 := Try.zeroValue74 }
theorem sts_map (xs : List St) : sts xs = xs.map Value.string := by
  show List.flatMap (fun x => [Value.string x]) xs = _
  induction xs with
  | nil => rfl
  | cons x xs ih => simp [List.flatMap_cons, ih]
theorem isKey (key x : ByteArray) (p : Nat) (W : World) (hc : W.cell? ⟨p, 4, none⟩ = some (.string key)) :
    FnGives Try.prog 55 #[.pointer (some ⟨p, 0, none⟩)] #[.string x] (.bool (x.toList == key.toList)) W := by
  show Calls Try.prog 55 #[.string x, .pointer (some ⟨p, 0, none⟩)] W _
  cases hk : (x.toList == key.toList)
  all_goals
    go_enter Try.func55, Try.ntmps55
    go_wp2
    go_ret
    exact ⟨rfl, 0, rfl⟩
theorem idxF_nil (f : Value) (w : World) : Calls Try.prog 80 #[.slice none 0 0, f] w fun e w' => e = .returned (.int .i64 (-1)) ∧ w' = w := by
  go_enter Try.func80, Try.ntmps80
  go_wp2
  go_loopw [8] (fun i wr => i = .int .i64 0 ∧ wr = w) (fun i _ => 0)
  case atStart => exact ⟨rfl, rfl⟩
  case round =>
    obtain ⟨rfl, rfl⟩ := hrel
    go_wp2
    go_ret
    exact ⟨rfl, rfl⟩
theorem delF_any (w : World) (A : Option Addr) (n c base p : Nat) (xs : List St) (key : ByteArray) (hn : n ≤ 9223372036854775807) (hown : w.ownsRow base 9 1 (.slice A n c) n (sts xs)) (hp : p < w.heap.size) (hne : (Value.slice A n c).ownBlock ≠ some p) (hc : w.cell? ⟨p, 4, none⟩ = some (.string key)) :
    Calls Try.prog 54 #[.slice A n c, .func (.func 55) #[] #[.pointer (some ⟨p, 0, none⟩)]] w fun e w' => ∃ m, e = .returned (.slice A m c) ∧ m ≤ n ∧ w'.ownsRow base 9 1 (.slice A m c) m (sts (delK xs key)) ∧ w.grownBy w' (Value.slice A n c).ownBlock := by
  rcases hown.2 with ⟨e0, e1⟩ | ⟨g, cap, cur, e0, _⟩
  · injection e0 with q1 q2 q3
    subst q1 q2 q3
    have hx : delK xs key = [] := by
      have h1 := hown.1
      have : xs = [] := by cases xs with | nil => rfl | cons x t => simp [flat] at h1
      subst this; rfl
    rw [hx]
    go_enter Try.func54, Try.ntmps54
    go_wp2_with fail
    refine (idxF_nil _ w).mono ?_
    rintro e w1 ⟨rfl, rfl⟩
    go_wp2
    go_ret
    exact ⟨0, rfl, Nat.le_refl _, World.ownsRow_nil _ _ _ _, World.grownBy.refl _ _⟩
  · rw [sts_map] at hown
    obtain ⟨g, cap, e0, hb, hg, hnc, hcm, hl, hH⟩ := holds_of_ownsRow hown (by rw [e0]; simp)
    injection e0 with q1 q2 q3
    subst q1 q3
    have eg : ∀ args w, (callFunc 55 args).run Try.prog w = .ok (.enter 55 args) w := enters_of Try.func55 (by kernel_rfl) rfl
    have hpg : p ≠ g := fun e => hne (by subst e; rfl)
    have hcon := AnyE.slices_DeleteFunc Try.ldel Value.string (fun _ => rfl) (fun x => x.toList == key.toList) 55 #[.pointer (some ⟨p, 0, none⟩)] eg ⟨#[]⟩ Try.zeroValue9 g 0 c xs.toArray w
      (fun W x hB => isKey key x p W ((hB.cell (p := ⟨p, 4, none⟩) hp).trans hc))
      (fun n os dk x _ => isKey key x p _ (by
        unfold sortWorld
        rw [cell?_grow _ _ _ (by show p < (putRow _ _ _ _ _).heap.size; rw [size_putRow]; exact hp), cell?_putRow_other _ _ g 0 _ _ (Or.inl hpg)]
        exact hc)) hH (by simpa [hl] using hn) (by simpa [hl] using hnc)
    have hs : xs.toArray.size = n := by simpa using hl
    rw [hs] at hcon
    have hfl : (delK xs key).length ≤ n := by rw [← hl]; exact List.length_filter_le _ _
    refine Calls.mono hcon ?_
    rintro e w' ⟨rfl, q, rfl⟩
    refine ⟨(delK xs key).length, rfl, hfl, ?_, ?_⟩
    · have := ownsRow_putRow (q := q) (k := (delK xs key).length) (ys := delK xs key ++ List.replicate (n - (delK xs key).length) ⟨#[]⟩) hown (by simp; omega) hfl
      rw [List.take_left] at this
      rw [sts_map]
      exact this
    · refine ⟨rfl, rfl, rfl, by simp, fun k hk hne' => ?_⟩
      have : g ≠ k := fun e => hne' (by rw [e]; rfl)
      simp [putRow, mapBlock, Sort.ahead, Array.getElem?_modify, this]
end Go.Proofs.Ytlfjnaeepblhiaa
