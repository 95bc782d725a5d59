/- What is known of activities that were heard: whether they are valid, and which one to a key is the last. -/
import Derived.Test.YtlfjnaeepblhiaaActivitys
namespace Go.Proofs.Ytlfjnaeepblhiaa
open Go.RowKit
set_option linter.unusedVariables false
set_option linter.unusedSimpArgs false
theorem getD_of {α : Type} {xs : List α} {k : Nat} {x d : α} (h : xs[k]? = some x) : xs.getD k d = x := by rw [List.getD_eq_getElem?_getD, h]; rfl
def acVal (x : Ac) : Bool := avalV x.1 x.2.1 x.2.2.1 x.2.2.2.1 x.2.2.2.2
def hvTo (xs : List Ac) (k : Nat) : Bool := (xs.take k).all acVal
/-- Whether what was heard is valid. -/
@[irreducible] def heardV (xs : List Ac) : Bool := decide (xs.length ≤ 30) && xs.all acVal
theorem hvTo_next {xs : List Ac} {k : Nat} {x : Ac} (h : xs[k]? = some x) : hvTo xs (k + 1) = (hvTo xs k && acVal x) := by
  unfold hvTo; rw [List.take_add_one, h, List.all_append]; simp
theorem heard_big {xs : List Ac} (h : ¬ xs.length ≤ 30) : heardV xs = false := by unfold heardV; simp [h]
theorem heard_not {xs : List Ac} {k : Nat} {x : Ac} (h : xs[k]? = some x) (hx : acVal x = false) : heardV xs = false := by
  unfold heardV
  rw [Bool.and_eq_false_iff]
  refine .inr ?_
  rw [List.all_eq_false]
  exact ⟨x, List.mem_of_getElem? h, by simp [hx]⟩
theorem heard_yes {xs : List Ac} (h : xs.length ≤ 30) (h' : hvTo xs xs.length = true) : heardV xs = true := by
  unfold heardV
  unfold hvTo at h'
  rw [List.take_length] at h'
  simp [h, h']
theorem heard_len {xs : List Ac} (h : heardV xs = true) : xs.length ≤ 30 ∧ xs.all acVal = true := by unfold heardV at h; simpa using h
/-- The number of the last activity to a key among the first k; -1 if there is none. -/
def lastI (xs : List Ac) (key : ByteArray) : Nat → Int
  | 0 => -1
  | k + 1 => if (xs.getD k default).2.2.2.2 = key ∧ (lastI xs key k < 0 ∨ (xs.getD (lastI xs key k).toNat default).2.1 ≤ (xs.getD k default).2.1) then (k : Int) else lastI xs key k
theorem lastI_range (xs : List Ac) (key : ByteArray) : ∀ k, -1 ≤ lastI xs key k ∧ lastI xs key k < k
  | 0 => by unfold lastI; omega
  | k + 1 => by
    have h := lastI_range xs key k
    unfold lastI
    split <;> omega
theorem lastI_take {xs : List Ac} {key : ByteArray} {k : Nat} {x : Ac} (h : xs[k]? = some x) (hk : x.2.2.2.2 = key) (hl : lastI xs key k < 0) : lastI xs key (k + 1) = k := by
  rw [lastI, if_pos]; rw [getD_of h]; exact ⟨hk, .inl hl⟩
theorem lastI_more {xs : List Ac} {key : ByteArray} {k : Nat} {x y : Ac} (h : xs[k]? = some x) (hk : x.2.2.2.2 = key) (h' : xs[(lastI xs key k).toNat]? = some y) (hl : y.2.1 ≤ x.2.1) : lastI xs key (k + 1) = k := by
  rw [lastI, if_pos]; rw [getD_of h, getD_of h']; exact ⟨hk, .inr hl⟩
theorem lastI_less {xs : List Ac} {key : ByteArray} {k : Nat} {x y : Ac} (h : xs[k]? = some x) (h0 : ¬ lastI xs key k < 0) (h' : xs[(lastI xs key k).toNat]? = some y) (hl : ¬ y.2.1 ≤ x.2.1) : lastI xs key (k + 1) = lastI xs key k := by
  rw [lastI, if_neg]; rw [getD_of h, getD_of h']; rintro ⟨_, h1 | h1⟩
  · exact h0 h1
  · exact hl h1
theorem lastI_other {xs : List Ac} {key : ByteArray} {k : Nat} {x : Ac} (h : xs[k]? = some x) (hk : ¬ x.2.2.2.2 = key) : lastI xs key (k + 1) = lastI xs key k := by
  rw [lastI, if_neg]; rw [getD_of h]; exact fun h1 => hk h1.1
def lastOf (xs : List Ac) (i : Int) : Ac × Bool := if i < 0 then ((0, 0, ⟨#[]⟩, ⟨#[]⟩, ⟨#[]⟩), false) else (xs.getD i.toNat default, true)
theorem lastOf_no (xs : List Ac) {i : Int} (h : i < 0) : lastOf xs i = ((0, 0, ⟨#[]⟩, ⟨#[]⟩, ⟨#[]⟩), false) := by unfold lastOf; rw [if_pos h]
theorem lastOf_yes {xs : List Ac} {i : Int} {x : Ac} (h : ¬ i < 0) (hx : xs[i.toNat]? = some x) : lastOf xs i = (x, true) := by unfold lastOf; rw [if_neg h, getD_of hx]
/-- The last activity to a key, and whether there is one. -/
@[irreducible] def lastV (xs : List Ac) (key : ByteArray) : Ac × Bool := if heardV xs = true then lastOf xs (lastI xs key xs.length) else ((0, 0, ⟨#[]⟩, ⟨#[]⟩, ⟨#[]⟩), false)
theorem last_no {xs : List Ac} {key : ByteArray} (h : heardV xs = false) : lastV xs key = ((0, 0, ⟨#[]⟩, ⟨#[]⟩, ⟨#[]⟩), false) := by unfold lastV; rw [h]; rfl
theorem last_yes {xs : List Ac} {key : ByteArray} (h : heardV xs = true) : lastV xs key = lastOf xs (lastI xs key xs.length) := by unfold lastV; rw [if_pos h]
/-- It is to the key, and none has a greater number. -/
theorem lastI_facts (xs : List Ac) (key : ByteArray) : ∀ k, k ≤ xs.length → (0 ≤ lastI xs key k → ∃ y, xs[(lastI xs key k).toNat]? = some y ∧ y.2.2.2.2 = key ∧ ∀ (j : Nat) (x : Ac), j < k → xs[j]? = some x → x.2.2.2.2 = key → x.2.1 ≤ y.2.1) ∧
    (lastI xs key k < 0 → ∀ (j : Nat) (x : Ac), j < k → xs[j]? = some x → ¬ x.2.2.2.2 = key)
  | 0, _ => ⟨fun h => by unfold lastI at h; omega, fun _ j x hj => by omega⟩
  | k + 1, hk => by
    obtain ⟨h1, h2⟩ := lastI_facts xs key k (by omega)
    obtain ⟨x, hx⟩ : ∃ x, xs[k]? = some x := ⟨_, List.getElem?_eq_getElem (by omega)⟩
    have part : ∀ {j : Nat} {z : Ac}, j < k + 1 → xs[j]? = some z → z = x ∨ j < k := by
      intro j z hj hz
      rcases Nat.lt_or_ge j k with h | h
      · exact .inr h
      · obtain rfl : j = k := by omega
        rw [hx] at hz; injection hz with hz; exact .inl hz.symm
    by_cases hkey : x.2.2.2.2 = key
    · by_cases hl : lastI xs key k < 0
      · rw [lastI_take hx hkey hl]
        refine ⟨fun _ => ⟨x, by simpa using hx, hkey, fun j z hj hz hzk => ?_⟩, fun h => by omega⟩
        rcases part hj hz with rfl | h
        · exact Int.le_refl _
        · exact absurd hzk (h2 hl j z h hz)
      · obtain ⟨y, hy, hyk, hmax⟩ := h1 (by omega)
        by_cases hle : y.2.1 ≤ x.2.1
        · rw [lastI_more hx hkey hy hle]
          refine ⟨fun _ => ⟨x, by simpa using hx, hkey, fun j z hj hz hzk => ?_⟩, fun h => by omega⟩
          rcases part hj hz with rfl | h
          · exact Int.le_refl _
          · exact Int.le_trans (hmax j z h hz hzk) hle
        · rw [lastI_less hx hl hy hle]
          refine ⟨fun _ => ⟨y, hy, hyk, fun j z hj hz hzk => ?_⟩, fun h => by omega⟩
          rcases part hj hz with rfl | h
          · omega
          · exact hmax j z h hz hzk
    · rw [lastI_other hx hkey]
      refine ⟨fun h => ?_, fun h j z hj hz hzk => ?_⟩
      · obtain ⟨y, hy, hyk, hmax⟩ := h1 h
        refine ⟨y, hy, hyk, fun j z hj hz hzk => ?_⟩
        rcases part hj hz with rfl | h
        · exact absurd hzk hkey
        · exact hmax j z h hz hzk
      · rcases part hj hz with rfl | h'
        · exact hkey hzk
        · exact h2 h j z h' hz hzk
theorem last_cases (xs : List Ac) (key : ByteArray) : lastV xs key = ((0, 0, ⟨#[]⟩, ⟨#[]⟩, ⟨#[]⟩), false) ∨
    ∃ y, lastV xs key = (y, true) ∧ y.2.2.2.2 = key ∧ ∀ (j : Nat) (x : Ac), xs[j]? = some x → x.2.2.2.2 = key → x.2.1 ≤ y.2.1 := by
  cases h : heardV xs with
  | false => exact .inl (last_no h)
  | true =>
    rw [last_yes h]
    obtain ⟨h1, h2⟩ := lastI_facts xs key xs.length (Nat.le_refl _)
    by_cases hl : lastI xs key xs.length < 0
    · exact .inl (lastOf_no xs hl)
    · obtain ⟨y, hy, hyk, hmax⟩ := h1 (by omega)
      exact .inr ⟨y, lastOf_yes hl hy, hyk, fun j x hx hk => hmax j x ((List.getElem?_eq_some_iff.1 hx).1) hx hk⟩
set_option maxHeartbeats 1000000 in
theorem heardI_any (A : Option Addr) (n c : Nat) (xs : List Ac) (w : World) (h : Sl w A n c 5 (acs xs)) (hok : acOk xs) :
    Calls Try.prog 45 #[.slice A n c] w fun e w' => e = .returned (.bool (heardV xs)) ∧ Ext.of w w' := by
  have hlx : xs.length = n := h.count acC_len (by omega)
  have hmx := h.max
  have hcx := h.cap
  unfold maxLen at hmx
  by_cases hn : n ≤ 30
  · go_enter Try.func45, Try.ntmps45
    go_wp2
    go_loopw [10] (fun i wr => ∃ (k : Nat), k ≤ n ∧ i = .int .i64 k ∧ Ext.of w wr ∧ Hid (hvTo xs k = true)) (fun i _ => n - (intOf i).toNat)
    case atStart => exact ⟨0, Nat.zero_le _, rfl, Ext.of.refl _, rfl⟩
    case round =>
      obtain ⟨k, hk, rfl, hE, hto⟩ := hrel
      by_cases hlt : k < n
      · obtain ⟨ad, e, f, a, b, s, rfl, hab, c0, c1, c2, c3, c4⟩ := (h.ext hE).ac hlt
        have hva := hok _ (List.mem_of_getElem? hab)
        have HV := hid hva; clear hva
        cases hv : avalV e f a b s with
        | false =>
          have R := hid (heard_not hab hv)
          have C := fun W => avalI_any e f a b s W HV.out.1 HV.out.2.1 HV.out.2.2
          rw [hv] at C
          clear hab hto hv
          go_wp2_with fail
          refine (C _).mono ?_
          rintro e1 w2 ⟨rfl, x2⟩
          go_wp2_with fail
          go_ret
          exact ⟨ret_bool R.out.symm, (hE.alloc _).trans x2⟩
        | true =>
          have R := hid (show hvTo xs (k + 1) = true by rw [hvTo_next hab, hto.out, show acVal (e, f, a, b, s) = true from hv]; rfl)
          have C := fun W => avalI_any e f a b s W HV.out.1 HV.out.2.1 HV.out.2.2
          rw [hv] at C
          clear hab hto hv
          go_wp2_with fail
          refine (C _).mono ?_
          rintro e1 w2 ⟨rfl, x2⟩
          have hE := (hE.alloc _).trans x2
          clear x2 c0 c1 c2 c3 c4
          go_wp2_with fail
          go_roundw
          case rel => exact ⟨k + 1, by omega, by go_num, hE, R⟩
          case measure => simp [intOf]; omega
      · obtain rfl : k = n := by omega
        have R := hid (heard_yes (xs := xs) (by omega) (by rw [hlx]; exact hto.out))
        clear hto
        go_wp2
        go_ret
        exact ⟨ret_bool R.out.symm, hE⟩
  · have R := hid (heard_big (xs := xs) (by omega))
    go_enter Try.func45, Try.ntmps45
    go_wp2
    go_ret
    exact ⟨ret_bool R.out.symm, Ext.of.refl _⟩
end Go.Proofs.Ytlfjnaeepblhiaa
