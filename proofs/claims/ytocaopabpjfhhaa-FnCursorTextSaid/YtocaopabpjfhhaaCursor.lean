/- The contracts of CursorText and ReadCursor, the program's and the reference's: both return cursorB, readC. -/
import Derived.Test.YtocaopabpjfhhaaMark
namespace Go.Proofs.Ytocaopabpjfhhaa
open Go.RowKit

/-- What CursorText returns. -/
@[irreducible] def cursorB (e m : Int) : ByteArray :=
  if (0 ≤ e ∧ e ≤ 40) ∧ (1 ≤ m ∧ m ≤ 40) then ⟨#[112]⟩ ++ markB e ++ ⟨#[45]⟩ ++ markB ((e * 31 + m) % 36) else ⟨#[]⟩
theorem cursorB_yes {e m : Int} (h1 : 0 ≤ e ∧ e ≤ 40) (h2 : 1 ≤ m ∧ m ≤ 40) : cursorB e m = ⟨#[112]⟩ ++ markB e ++ ⟨#[45]⟩ ++ markB ((e * 31 + m) % 36) := by
  unfold cursorB; rw [if_pos ⟨h1, h2⟩]
theorem cursorB_no {e m : Int} (h : ¬ ((0 ≤ e ∧ e ≤ 40) ∧ (1 ≤ m ∧ m ≤ 40))) : cursorB e m = ⟨#[]⟩ := by
  unfold cursorB; rw [if_neg h]

theorem cursorI_any (x m : Int) (w : World) : Calls Try.prog 18 #[.int .i64 x, .int .i64 m] w fun e w' => e = .returned (.string (cursorB x m)) ∧ w = w' := by
  by_cases h1 : 0 ≤ x ∧ x ≤ 40
  · by_cases h2 : 1 ≤ m ∧ m ≤ 40
    · rw [cursorB_yes h1 h2]
      have b1 := inB_yes h1
      have b2 := inB_yes h2
      have s1 := markB_size x
      have s2 := markB_size ((x * 31 + m) % 36)
      go_enter Try.func18, Try.ntmps18
      go_wp2_with (first
        | (go_at_call 46; refine (within_any _ _ _ _).mono ?_; rintro e w' ⟨rfl, rfl⟩)
        | (go_at_call 48; refine (markI_any _ _).mono ?_; rintro e w' ⟨rfl, rfl⟩))
      go_ret
      exact ⟨rfl, rfl⟩
    · rw [cursorB_no (fun h => h2 h.2)]
      have b1 := inB_yes h1
      have b2 := inB_no h2
      clear h2
      go_enter Try.func18, Try.ntmps18
      go_wp2_with (go_at_call 46; refine (within_any _ _ _ _).mono ?_; rintro e w' ⟨rfl, rfl⟩)
      go_ret
      exact ⟨rfl, rfl⟩
  · rw [cursorB_no (fun h => h1 h.1)]
    have b1 := inB_no h1
    clear h1
    go_enter Try.func18, Try.ntmps18
    go_wp2_with (go_at_call 46; refine (within_any _ _ _ _).mono ?_; rintro e w' ⟨rfl, rfl⟩)
    go_ret
    exact ⟨rfl, rfl⟩

theorem cursorS_any (x m : Int) (w : World) : Calls Try.prog 17 #[.int .i64 x, .int .i64 m] w fun e w' => e = .returned (.string (cursorB x m)) ∧ w = w' := by
  by_cases h1 : 0 ≤ x ∧ x ≤ 40
  · by_cases h2 : 1 ≤ m ∧ m ≤ 40
    · rw [cursorB_yes h1 h2]
      have b1 := inB_yes h1
      have b2 := inB_yes h2
      have s1 := markB_size x
      have s2 := markB_size ((x * 31 + m) % 36)
      go_enter Try.func17, Try.ntmps17
      go_wp2_with (first
        | (go_at_call 45; refine (l1In_any _ _ _ _).mono ?_; rintro e w' ⟨rfl, rfl⟩)
        | (go_at_call 47; refine (markS_any _ _).mono ?_; rintro e w' ⟨rfl, rfl⟩))
      go_ret
      exact ⟨rfl, rfl⟩
    · rw [cursorB_no (fun h => h2 h.2)]
      have b1 := inB_yes h1
      have b2 := inB_no h2
      clear h2
      go_enter Try.func17, Try.ntmps17
      go_wp2_with (go_at_call 45; refine (l1In_any _ _ _ _).mono ?_; rintro e w' ⟨rfl, rfl⟩)
      go_ret
      exact ⟨rfl, rfl⟩
  · rw [cursorB_no (fun h => h1 h.1)]
    have b1 := inB_no h1
    clear h1
    go_enter Try.func17, Try.ntmps17
    go_wp2_with (go_at_call 45; refine (l1In_any _ _ _ _).mono ?_; rintro e w' ⟨rfl, rfl⟩)
    go_ret
    exact ⟨rfl, rfl⟩

theorem str_eq (a b : ByteArray) : (a.toList == b.toList) = decide (a = b) := by
  rw [ByteArray.toList_eq, ByteArray.toList_eq, Bool.eq_iff_iff]
  simp only [beq_iff_eq, decide_eq_true_eq]
  constructor
  · intro h; cases a; cases b; simpa using h
  · rintro rfl; rfl

/-- The first entry from k on, up to 40, whose cursor is s; -1 if there is none. -/
def readF (s : ByteArray) (m : Int) : Nat → Nat → Int
  | 0, _ => -1
  | f + 1, k => if cursorB k m = s then k else readF s m f (k + 1)
/-- What ReadCursor returns. -/
@[irreducible] def readC (s : ByteArray) (m : Int) : Int := if 1 ≤ m ∧ m ≤ 40 then readF s m 41 0 else -1
theorem readC_yes {s : ByteArray} {m : Int} (h : 1 ≤ m ∧ m ≤ 40) : readC s m = readF s m 41 0 := by unfold readC; rw [if_pos h]
theorem readC_no {s : ByteArray} {m : Int} (h : ¬ (1 ≤ m ∧ m ≤ 40)) : readC s m = -1 := by unfold readC; rw [if_neg h]
def ReadRel (s : ByteArray) (m : Int) (k : Nat) : Prop := readF s m 41 0 = readF s m (41 - k) k
theorem readRel_hit {s : ByteArray} {m : Int} {k : Nat} (hk : k ≤ 40) (h : ReadRel s m k) (hc : cursorB k m = s) : (k : Int) = readF s m 41 0 := by
  rw [h, show 41 - k = (40 - k) + 1 from by omega, readF, if_pos hc]
theorem readRel_next {s : ByteArray} {m : Int} {k : Nat} (hk : k ≤ 40) (h : ReadRel s m k) (hc : ¬ cursorB k m = s) : ReadRel s m (k + 1) := by
  unfold ReadRel
  rw [h, show 41 - k = (40 - k) + 1 from by omega, readF, if_neg hc, show 41 - (k + 1) = 40 - k from by omega]
theorem readRel_end {s : ByteArray} {m : Int} (h : ReadRel s m 41) : (-1 : Int) = readF s m 41 0 := by rw [h]; rfl

theorem readI_any (s : ByteArray) (m : Int) (w : World) : Calls Try.prog 20 #[.string s, .int .i64 m] w fun e w' => e = .returned (.int .i64 (readC s m)) ∧ w = w' := by
  by_cases h : 1 ≤ m ∧ m ≤ 40
  · rw [readC_yes h]
    have b := inB_yes h
    clear h
    go_enter Try.func20, Try.ntmps20
    go_wp2_with (go_at_call 46; refine (within_any _ _ _ _).mono ?_; rintro e w' ⟨rfl, rfl⟩)
    clear b
    go_loop [5] (fun i => ∃ k : Nat, k ≤ 41 ∧ i = .int .i64 k ∧ ReadRel s m k) (fun i => 41 - (intOf i).toNat)
    case atStart => exact ⟨0, by omega, rfl, rfl⟩
    case round =>
      obtain ⟨k, hk, rfl, hr⟩ := hrel
      by_cases hk4 : k ≤ 40
      · by_cases hc : cursorB k m = s
        · have hb : ((cursorB k m).toList == s.toList) = true := by rw [str_eq]; exact decide_eq_true hc
          have e := readRel_hit hk4 hr hc
          have E := Lib.hid e
          clear e hc
          go_wp2_with (go_at_call 18; refine (cursorI_any _ _ _).mono ?_; rintro e w' ⟨rfl, rfl⟩)
          go_ret
          exact ⟨ret_i64 E.out, rfl⟩
        · have hb : ((cursorB k m).toList == s.toList) = false := by rw [str_eq]; exact decide_eq_false hc
          have R := readRel_next hk4 hr hc
          clear hc
          go_wp2_with (go_at_call 18; refine (cursorI_any _ _ _).mono ?_; rintro e w' ⟨rfl, rfl⟩)
          go_round
          case rel => exact ⟨k + 1, by omega, by go_num, R⟩
          case measure => simp [intOf]; omega
      · obtain rfl : k = 41 := by omega
        have e := readRel_end hr
        have E := Lib.hid e
        clear e
        go_wp2
        go_ret
        exact ⟨ret_i64 E.out, rfl⟩
  · rw [readC_no h]
    have b := inB_no h
    clear h
    go_enter Try.func20, Try.ntmps20
    go_wp2_with (go_at_call 46; refine (within_any _ _ _ _).mono ?_; rintro e w' ⟨rfl, rfl⟩)
    go_ret
    exact ⟨rfl, rfl⟩
theorem cursorB_ne {m : Int} (h : ¬ (1 ≤ m ∧ m ≤ 40)) (x : Int) : cursorB x m = ⟨#[]⟩ := cursorB_no (fun hh => h hh.2)
theorem readF_miss {s : ByteArray} {m : Int} (h : ∀ x : Int, cursorB x m ≠ s) : ∀ f k, readF s m f k = -1
  | 0, _ => rfl
  | f + 1, k => by rw [readF, if_neg (h _)]; exact readF_miss h f (k + 1)
theorem cursorB_pos {m : Int} (h : 1 ≤ m ∧ m ≤ 40) (x : Nat) (hx : x ≤ 40) : cursorB x m ≠ ⟨#[]⟩ := by
  intro e
  have := congrArg ByteArray.size e
  rw [cursorB_yes ⟨by omega, by omega⟩ h, ByteArray.size_append, ByteArray.size_append, ByteArray.size_append] at this
  change 1 + _ + _ + _ = 0 at this
  omega
theorem readF_empty {m : Int} (h : 1 ≤ m ∧ m ≤ 40) : ∀ f k, f + k ≤ 41 → readF ⟨#[]⟩ m f k = -1
  | 0, _, _ => rfl
  | f + 1, k, hk => by rw [readF, if_neg (cursorB_pos h k (by omega))]; exact readF_empty h f (k + 1) (by omega)
/-- The reference asks no size: it looks at all entries, and at none if the text is empty. -/
theorem readC_all (s : ByteArray) (m : Int) (hs : s ≠ ⟨#[]⟩) : readC s m = readF s m 41 0 := by
  by_cases h : 1 ≤ m ∧ m ≤ 40
  · exact readC_yes h
  · rw [readC_no h, readF_miss (fun x => by rw [cursorB_ne h]; exact fun e => hs e.symm)]
theorem readC_empty (m : Int) : readC ⟨#[]⟩ m = -1 := by
  by_cases h : 1 ≤ m ∧ m ≤ 40
  · rw [readC_yes h, readF_empty h _ _ (by omega)]
  · exact readC_no h
theorem str_empty (s : ByteArray) : s.toList.isEmpty = decide (s = ⟨#[]⟩) := by
  rw [ByteArray.toList_eq, Bool.eq_iff_iff]
  simp only [List.isEmpty_iff, decide_eq_true_eq]
  constructor
  · intro h; cases s; simpa using h
  · rintro rfl; rfl

theorem readS_any (s : ByteArray) (m : Int) (w : World) : Calls Try.prog 19 #[.string s, .int .i64 m] w fun e w' => e = .returned (.int .i64 (readC s m)) ∧ w = w' := by
  by_cases h : s = ⟨#[]⟩
  · subst h
    rw [readC_empty]
    go_enter Try.func19, Try.ntmps19
    go_wp2
    go_loop [5] (fun i => ∃ k : Nat, k ≤ 41 ∧ i = .int .i64 k) (fun i => 41 - (intOf i).toNat)
    case atStart => exact ⟨0, by omega, rfl⟩
    case round =>
      obtain ⟨k, hk, rfl⟩ := hrel
      by_cases hk4 : k ≤ 40
      · go_wp2
        go_round
        case rel => exact ⟨k + 1, by omega, by go_num⟩
        case measure => simp [intOf]; omega
      · obtain rfl : k = 41 := by omega
        go_wp2
        go_ret
        exact ⟨rfl, rfl⟩
  · rw [readC_all s m h]
    have he1 : s.toList.isEmpty = false := by rw [str_empty]; exact decide_eq_false h
    have he2 : s.toList ≠ [] := by intro e; rw [e] at he1; simp at he1
    clear h
    go_enter Try.func19, Try.ntmps19
    go_wp2
    go_loop [5] (fun i => ∃ k : Nat, k ≤ 41 ∧ i = .int .i64 k ∧ ReadRel s m k) (fun i => 41 - (intOf i).toNat)
    case atStart => exact ⟨0, by omega, rfl, rfl⟩
    case round =>
      obtain ⟨k, hk, rfl, hr⟩ := hrel
      by_cases hk4 : k ≤ 40
      · by_cases hc : cursorB k m = s
        · have hb : ((cursorB k m).toList == s.toList) = true := by rw [str_eq]; exact decide_eq_true hc
          have e := readRel_hit hk4 hr hc
          have E := Lib.hid e
          clear e hc
          go_wp2_with (go_at_call 17; refine (cursorS_any _ _ _).mono ?_; rintro e w' ⟨rfl, rfl⟩)
          go_ret
          exact ⟨ret_i64 E.out, rfl⟩
        · have hb : ((cursorB k m).toList == s.toList) = false := by rw [str_eq]; exact decide_eq_false hc
          have R := readRel_next hk4 hr hc
          clear hc
          go_wp2_with (go_at_call 17; refine (cursorS_any _ _ _).mono ?_; rintro e w' ⟨rfl, rfl⟩)
          go_round
          case rel => exact ⟨k + 1, by omega, by go_num, R⟩
          case measure => simp [intOf]; omega
      · obtain rfl : k = 41 := by omega
        have e := readRel_end hr
        have E := Lib.hid e
        clear e
        go_wp2
        go_ret
        exact ⟨ret_i64 E.out, rfl⟩
end Go.Proofs.Ytocaopabpjfhhaa
