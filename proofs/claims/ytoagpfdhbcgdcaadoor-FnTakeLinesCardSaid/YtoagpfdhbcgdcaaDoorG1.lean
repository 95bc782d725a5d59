/- The texts Base, Word, Words, More, Flat, Mem, MarkText, in one. -/
import Derived.Test.YtoagpfdhbcgdcaaDoorProg
import Derived.WalkKit
import Derived.Lib.Hide
import Derived.Maps.AppendAt
import Derived.Laws.OwnMore
import Derived.Laws.AppendOwnNone
import Derived.Deep.Draws
import Derived.Deep.QuietTactic
import Derived.BigQuiet
import Derived.Deep.RegionWith
import Derived.Deep.LoopGhost
import Derived.WalkSpells
import Derived.WalkLawsBesides
section
/- The contracts of the two functions that ask whether a number lies in a range. -/
namespace Go.Proofs.YtoagpfdhbcgdcaaDoor
open Go.RowKit

def inB (n lo hi : Int) : Bool := decide (lo ≤ n) && decide (n ≤ hi)
theorem inB_yes {n lo hi : Int} (h : lo ≤ n ∧ n ≤ hi) : inB n lo hi = true := by simp [inB, h.1, h.2]
theorem inB_no {n lo hi : Int} (h : ¬ (lo ≤ n ∧ n ≤ hi)) : inB n lo hi = false := by
  unfold inB; by_cases h1 : lo ≤ n <;> by_cases h2 : n ≤ hi <;> simp_all
theorem inB_iff {n lo hi : Int} : inB n lo hi = true ↔ lo ≤ n ∧ n ≤ hi := by simp [inB]

theorem within_any (n lo hi : Int) (w : World) : Calls Tryd.prog 49 #[.int .i64 n, .int .i64 lo, .int .i64 hi] w fun e w' => e = .returned (.bool (inB n lo hi)) ∧ w = w' := by
  by_cases h1 : lo ≤ n <;> by_cases h2 : n ≤ hi
  all_goals
    go_enter Tryd.func49, Tryd.ntmps49
    go_wp2
    go_ret
    exact ⟨by simp [inB, h1, h2], rfl⟩
theorem l1In_any (n lo hi : Int) (w : World) : Calls Tryd.prog 78 #[.int .i64 n, .int .i64 lo, .int .i64 hi] w fun e w' => e = .returned (.bool (inB n lo hi)) ∧ w = w' := by
  by_cases h1 : lo ≤ n <;> by_cases h2 : n ≤ hi
  all_goals
    go_enter Tryd.func78, Tryd.ntmps78
    go_wp2
    go_ret
    exact ⟨by simp [inB, h1, h2], rfl⟩
theorem hid_ {p : Prop} (h : p) : Hid p := h
theorem ret_bool {a b : Bool} (h : a = b) : Ending.returned (.bool a) = .returned (.bool b) := by rw [h]
theorem ret_i64 {a b : Int} (h : a = b) : Ending.returned (.int .i64 a) = .returned (.int .i64 b) := by rw [h]
end Go.Proofs.YtoagpfdhbcgdcaaDoor
end
section
/- The contracts of WordValid, the program's and the reference's, and of the laws' fixed answer. -/
namespace Go.Proofs.YtoagpfdhbcgdcaaDoor
open Go.RowKit
set_option linter.unusedVariables false

abbrev isSm (c : Nat) : Prop := 97 ≤ c ∧ c ≤ 122
abbrev isWc (c : Nat) : Prop := (48 ≤ c ∧ c ≤ 57) ∨ (97 ≤ c ∧ c ≤ 122)
/-- The byte at a place, as a number; 0 past the end. -/
def byteAt (s : ByteArray) (j : Nat) : Nat := (s.data.toList.getD j 0).toNat
def wordP (s : ByteArray) : Prop := 1 ≤ s.size ∧ s.size ≤ 8 ∧ isSm (byteAt s 0) ∧ ∀ j, j < s.size → isWc (byteAt s j)
instance (s : ByteArray) : Decidable (wordP s) := by unfold wordP; infer_instance
/-- What WordValid returns. -/
@[irreducible] def wordV (s : ByteArray) : Bool := decide (wordP s)
theorem wordV_yes {s : ByteArray} (h : wordP s) : wordV s = true := by unfold wordV; exact decide_eq_true h
theorem wordV_no {s : ByteArray} (h : ¬ wordP s) : wordV s = false := by unfold wordV; exact decide_eq_false h
theorem wordV_iff {s : ByteArray} : wordV s = true ↔ wordP s := by unfold wordV; exact decide_eq_true_iff

@[irreducible] def dv (c : Int) : Int := if 48 ≤ c ∧ c ≤ 57 then c - 48 else if 97 ≤ c ∧ c ≤ 122 then c - 87 else -1
theorem byteAt_get {s : ByteArray} {j : Nat} (h : j < s.size) : byteAt s j = (s[j]).toNat := by
  have h' : j < s.data.toList.length := by simpa using h
  unfold byteAt
  rw [List.getD_eq_getElem?_getD, List.getElem?_eq_getElem h']
  rfl
theorem byteAt_lt (s : ByteArray) (j : Nat) : byteAt s j ≤ 255 := by
  unfold byteAt; have := (s.data.toList.getD j 0).toNat_lt; omega

theorem digit_any (c : Int) (h0 : 0 ≤ c) (h1 : c ≤ 255) (w : World) : Calls Tryd.prog 87 #[.int .u8 c] w fun e w' => e = .returned (.int .i64 (dv c)) ∧ w = w' := by
  by_cases a : 48 ≤ c ∧ c ≤ 57
  · have E := hid_ (show dv c = c - 48 by unfold dv; rw [if_pos a])
    obtain ⟨a1, a2⟩ := a
    go_enter Tryd.func87, Tryd.ntmps87
    go_wp2
    go_ret
    exact ⟨ret_i64 E.out.symm, rfl⟩
  · by_cases b : 97 ≤ c ∧ c ≤ 122
    · have E := hid_ (show dv c = c - 87 by unfold dv; rw [if_neg a, if_pos b])
      obtain ⟨b1, b2⟩ := b
      have a' : 57 < c := by omega
      clear a
      go_enter Tryd.func87, Tryd.ntmps87
      go_wp2
      go_ret
      exact ⟨ret_i64 (by rw [E.out]; omega), rfl⟩
    · have E := hid_ (show dv c = -1 by unfold dv; rw [if_neg a, if_neg b])
      by_cases x1 : c < 48
      · clear a b
        go_enter Tryd.func87, Tryd.ntmps87
        go_wp2
        go_ret
        exact ⟨ret_i64 E.out.symm, rfl⟩
      · by_cases x2 : c < 97
        · have x3 : 57 < c := by omega
          clear a b
          go_enter Tryd.func87, Tryd.ntmps87
          go_wp2
          go_ret
          exact ⟨ret_i64 E.out.symm, rfl⟩
        · have x3 : 122 < c := by omega
          clear a b
          go_enter Tryd.func87, Tryd.ntmps87
          go_wp2
          go_ret
          exact ⟨ret_i64 E.out.symm, rfl⟩

theorem dv_neg {c : Int} (h0 : 0 ≤ c) : dv c < 0 ↔ ¬ isWc c.toNat := by
  unfold dv
  split
  · constructor
    · omega
    · intro h; exact absurd (Or.inl ⟨by omega, by omega⟩) h
  · split
    · constructor
      · omega
      · intro h; exact absurd (Or.inr ⟨by omega, by omega⟩) h
    · constructor
      · intro _ h; unfold isWc at h; omega
      · omega

theorem wordI_any (s : ByteArray) (w : World) (hs : s.size ≤ 9223372036854775807) : Calls Tryd.prog 47 #[.string s] w fun e w' => e = .returned (.bool (wordV s)) ∧ w = w' := by
  by_cases h1 : 1 ≤ s.size
  · by_cases h8 : s.size ≤ 8
    · have hb := byteAt_get (s := s) (j := 0) (by omega)
      by_cases hsm : isSm (byteAt s 0)
      · have hsm' : 97 ≤ (s[0]'(by omega)).toNat ∧ (s[0]'(by omega)).toNat ≤ 122 := by rw [← hb]; exact hsm
        obtain ⟨a1, a2⟩ := hsm'
        have HB := hid_ hb
        have HSM := hid_ hsm
        have R0 := hid_ (show ∀ j, j < 1 → isWc (byteAt s j) from fun j hj => by
          rw [show j = 0 by omega]; exact Or.inr hsm)
        clear hb hsm
        go_enter Tryd.func47, Tryd.ntmps47
        go_wp2
        go_loop [3] (fun i => ∃ k : Nat, 1 ≤ k ∧ k ≤ s.size ∧ i = .int .i64 k ∧ Hid (∀ j, j < k → isWc (byteAt s j))) (fun i => s.size - (intOf i).toNat)
        case atStart => exact ⟨1, by omega, by omega, rfl, R0⟩
        case round =>
          obtain ⟨k, hk1, hk, rfl, hr⟩ := hrel
          by_cases hlt : k < s.size
          · have hbk := byteAt_get (s := s) (j := k) hlt
            have hub := byteAt_lt s k
            rw [hbk] at hub
            by_cases hc : isWc (byteAt s k)
            · have hd : ¬ dv (s[k].toNat : Int) < 0 := by rw [dv_neg (by omega), Int.toNat_natCast, ← hbk]; exact fun h => h hc
              have R := hid_ (show ∀ j, j < k + 1 → isWc (byteAt s j) from fun j hj => by
                by_cases e : j = k
                · rw [e]; exact hc
                · exact hr.out j (by omega))
              clear hbk hc hr
              go_wp2_with (go_at_call 87; refine (digit_any _ (by omega) (by omega) _).mono ?_; rintro e w' ⟨rfl, rfl⟩)
              go_round
              case rel => exact ⟨k + 1, by omega, by omega, by go_num, R⟩
              case measure => simp [intOf]; omega
            · have hd : dv (s[k].toNat : Int) < 0 := by rw [dv_neg (by omega), Int.toNat_natCast, ← hbk]; exact hc
              have R := hid_ (wordV_no (s := s) (fun h => hc (h.2.2.2 k hlt)))
              clear hbk hc hr
              go_wp2_with (go_at_call 87; refine (digit_any _ (by omega) (by omega) _).mono ?_; rintro e w' ⟨rfl, rfl⟩)
              go_ret
              exact ⟨ret_bool R.out.symm, rfl⟩
          · obtain rfl : k = s.size := by omega
            have R := hid_ (wordV_yes (s := s) ⟨h1, h8, HSM.out, hr.out⟩)
            clear hr
            go_wp2
            go_ret
            exact ⟨ret_bool R.out.symm, rfl⟩
      · rw [wordV_no (fun h => hsm h.2.2.1)]
        rw [hb] at hsm
        by_cases x1 : (s[0]'(by omega)).toNat < 97
        · clear hb hsm
          go_enter Tryd.func47, Tryd.ntmps47
          go_wp2
          go_ret
          exact ⟨rfl, rfl⟩
        · have x2 : 122 < (s[0]'(by omega)).toNat := by unfold isSm at hsm; omega
          clear hb hsm
          go_enter Tryd.func47, Tryd.ntmps47
          go_wp2
          go_ret
          exact ⟨rfl, rfl⟩
    · rw [wordV_no (fun h => h8 h.2.1)]
      go_enter Tryd.func47, Tryd.ntmps47
      go_wp2
      go_ret
      exact ⟨rfl, rfl⟩
  · rw [wordV_no (fun h => h1 h.1)]
    go_enter Tryd.func47, Tryd.ntmps47
    go_wp2
    go_ret
    exact ⟨rfl, rfl⟩

def GoodTo (s : ByteArray) (k : Nat) : Prop := ∀ j, j < k → isWc (byteAt s j) ∧ (j = 0 → isSm (byteAt s j))
theorem goodTo_next {s : ByteArray} {k : Nat} (h : GoodTo s k) (h1 : isWc (byteAt s k)) (h2 : k = 0 → isSm (byteAt s k)) : GoodTo s (k + 1) := by
  intro j hj
  by_cases e : j = k
  · subst e; exact ⟨h1, h2⟩
  · exact h j (by omega)
theorem goodTo_end {s : ByteArray} (h : GoodTo s s.size) : wordV s = inB s.size 1 8 := by
  by_cases hb : (1 : Int) ≤ s.size ∧ (s.size : Int) ≤ 8
  · rw [inB_yes hb, wordV_yes]
    exact ⟨by omega, by omega, (h 0 (by omega)).2 rfl, fun j hj => (h j hj).1⟩
  · rw [inB_no hb, wordV_no]
    exact fun h => hb ⟨by have := h.1; omega, by have := h.2.1; omega⟩
theorem word_bad {s : ByteArray} {k : Nat} (hk : k < s.size) (h : ¬ isWc (byteAt s k) ∨ (k = 0 ∧ ¬ isSm (byteAt s k))) : wordV s = false := by
  refine wordV_no fun hw => ?_
  rcases h with h | ⟨rfl, h⟩
  · exact h (hw.2.2.2 k hk)
  · exact h hw.2.2.1

theorem wordS_any (s : ByteArray) (w : World) (hs : s.size ≤ 9223372036854775807) : Calls Tryd.prog 81 #[.string s] w fun e w' => e = .returned (.bool (wordV s)) ∧ w = w' := by
  have G0 := hid_ (show GoodTo s 0 from fun j hj => by omega)
  go_enter Tryd.func81, Tryd.ntmps81
  go_wp2
  go_loop [3] (fun i => ∃ k : Nat, k ≤ s.size ∧ i = .int .i64 k ∧ Hid (GoodTo s k)) (fun i => s.size - (intOf i).toNat)
  case atStart => exact ⟨0, by omega, rfl, G0⟩
  case round =>
    obtain ⟨k, hk, rfl, hr⟩ := hrel
    by_cases hlt : k < s.size
    · have hbk := byteAt_get (s := s) (j := k) hlt
      have hub := byteAt_lt s k
      rw [hbk] at hub
      by_cases hsm : 97 ≤ s[k].toNat ∧ s[k].toNat ≤ 122
      · have R := hid_ (goodTo_next hr.out (Or.inr (by rw [hbk]; exact hsm)) (fun _ => by rw [hbk]; exact hsm))
        obtain ⟨c1, c2⟩ := hsm
        clear hbk hr
        go_wp2
        go_round
        case rel => exact ⟨k + 1, by omega, by go_num, R⟩
        case measure => simp [intOf]; omega
      · by_cases hk0 : k = 0
        · have R := hid_ (word_bad hlt (Or.inr ⟨hk0, by rw [hbk]; exact hsm⟩))
          have hb0 : ((k : Int) == 0) = true := by rw [hk0]; rfl
          by_cases c1 : 97 ≤ s[k].toNat
          · have c2 : 122 < s[k].toNat := by omega
            have hd : decide ((s[k].toNat : Int) ≤ 122) = false := by simp; omega
            clear hbk hr hsm hk0
            go_wp2
            go_ret
            exact ⟨ret_bool R.out.symm, rfl⟩
          · clear hbk hr hsm hk0
            go_wp2
            go_ret
            exact ⟨ret_bool R.out.symm, rfl⟩
        · have hb0 : ((k : Int) == 0) = false := by simpa using hk0
          by_cases hdg : 48 ≤ s[k].toNat ∧ s[k].toNat ≤ 57
          · have R := hid_ (goodTo_next hr.out (Or.inl (by rw [hbk]; exact hdg)) (fun e => absurd e hk0))
            obtain ⟨d1, d2⟩ := hdg
            clear hbk hr hsm hk0
            go_wp2
            go_round
            case rel => exact ⟨k + 1, by omega, by go_num, R⟩
            case measure => simp [intOf]; omega
          · have R := hid_ (word_bad hlt (Or.inl (by rw [hbk]; unfold isWc; omega)))
            by_cases d1 : s[k].toNat < 48
            · clear hbk hr hsm hk0 hdg
              go_wp2
              go_ret
              exact ⟨ret_bool R.out.symm, rfl⟩
            · have d2 : 57 < s[k].toNat := by omega
              by_cases c1 : 97 ≤ s[k].toNat
              · have c2 : 122 < s[k].toNat := by omega
                have hd : decide ((s[k].toNat : Int) ≤ 122) = false := by simp; omega
                clear hbk hr hsm hk0 hdg
                go_wp2
                go_ret
                exact ⟨ret_bool R.out.symm, rfl⟩
              · clear hbk hr hsm hk0 hdg
                go_wp2
                go_ret
                exact ⟨ret_bool R.out.symm, rfl⟩
    · obtain rfl : k = s.size := by omega
      have R := hid_ (goodTo_end hr.out)
      clear hr
      go_wp2_with (go_at_call 78; refine (l1In_any _ _ _ _).mono ?_; rintro e w' ⟨rfl, rfl⟩)
      go_ret
      exact ⟨ret_bool R.out.symm, rfl⟩

theorem alive_any (w : World) : Calls Tryd.prog 11 #[] w fun e w' => e = .returned (.bool true) ∧ w = w' := by
  have h1 : wordV ⟨#[97, 49]⟩ = true := wordV_yes (by decide +kernel)
  have h2 : wordV ⟨#[49, 97]⟩ = false := wordV_no (by decide +kernel)
  go_enter Tryd.func11, Tryd.ntmps11
  go_wp2_with (go_at_call 47; refine (wordI_any _ _ (by decide +kernel)).mono ?_; rintro e w' ⟨rfl, rfl⟩)
  go_ret
  exact ⟨rfl, rfl⟩
end Go.Proofs.YtoagpfdhbcgdcaaDoor
end
section
/- Words for memory: what a slice value shows, a row of the call's own, and how both last from one world to the next. -/
namespace Go.Proofs.YtoagpfdhbcgdcaaDoor
open Go.RowKit

theorem hid {p : Prop} (h : p) : Hid p := h
theorem addr_block (a : Addr) (n : Nat) : (a.add n).block = a.block := by unfold Addr.add; split <;> rfl
theorem addr_add (a : Addr) (i j : Nat) : (a.add i).add j = a.add (i + j) := by
  unfold Addr.add
  by_cases hi : i = 0 <;> by_cases hj : j = 0 <;> simp [hi, hj, Nat.add_assoc]
theorem addr_zero (a : Addr) : a.add 0 = a := by simp [Addr.add]
theorem addr_own (g j : Nat) : (⟨g, 0, none⟩ : Addr).add j = ⟨g, j, none⟩ := by unfold Addr.add; split <;> simp_all

/-- The address A shows the cells vs. -/
def See (w : World) (A : Option Addr) (vs : List Value) : Prop :=
  vs = [] ∨ ∃ ad, A = some ad ∧ ∀ j u, vs[j]? = some u → w.cell? (ad.add j) = some u

section
variable {w w' : World} {A : Option Addr} {vs : List Value}
theorem See.nil (w : World) (A : Option Addr) : See w A [] := .inl rfl
theorem See.ad (h : See w A vs) {k : Nat} (hk : k < vs.length) : ∃ ad, A = some ad ∧ ∀ j u, vs[j]? = some u → w.cell? (ad.add j) = some u := by
  rcases h with h | h
  · subst h; simp at hk
  · exact h
theorem See.keep (h : See w A vs) (hk : ∀ (ad p : Addr) (u : Value), A = some ad → p.block = ad.block → w.cell? p = some u → w'.cell? p = some u) : See w' A vs := by
  rcases h with h | ⟨ad, hA, h⟩
  · exact .inl h
  · exact .inr ⟨ad, hA, fun j u hu => hk ad _ u hA (addr_block ad j) (h j u hu)⟩
theorem See.lt (h : See w A vs) (hv : vs ≠ []) : ∃ ad, A = some ad ∧ ad.block < w.heap.size := by
  rcases h with h | ⟨ad, hA, h⟩
  · exact absurd h hv
  · match vs, hv with
    | u :: _, _ => exact ⟨ad, hA, by have := World.block_lt_of_cell? w _ (h 0 u rfl); rwa [addr_block] at this⟩
theorem See.below (h : See w A vs) (hb : Below w.heap.size w w') : See w' A vs :=
  h.keep fun _ p _ _ _ hc => (hb.cell (p := p) (World.block_lt_of_cell? w p hc)).trans hc
theorem See.grown (h : See w A vs) {row : Option Nat} (hg : w.grownBy w' row) (hne : vs ≠ [] → ∀ ad, A = some ad → some ad.block ≠ row) : See w' A vs := by
  by_cases hv : vs = []
  · exact .inl hv
  · exact h.keep fun ad _ _ hA hp hc => hg.cell hc (by rw [hp]; exact hne hv ad hA)
theorem See.drew (h : See w A vs) : See w.drew A vs := h
theorem See.drewN (h : See w A vs) (k : Nat) : See (w.drewN k) A vs := h
theorem See.alloc (h : See w A vs) (o : Obj) : See (w.alloc o) A vs :=
  h.keep fun _ p _ _ _ hc => (World.cell?_alloc_lt w o p (World.block_lt_of_cell? w p hc)).trans hc
theorem See.setCell (h : See w A vs) {p : Addr} (hne : vs ≠ [] → ∀ ad, A = some ad → ad.block ≠ p.block) (u : Value) : See (w.setCell p u) A vs := by
  by_cases hv : vs = []
  · exact .inl hv
  · exact h.keep fun ad q _ hA hq hc => (World.cell?_setCell_other w p q u (fun e => hne hv ad hA (by rw [← hq, e]))).trans hc
/-- The cells from the k-th on. -/
theorem See.cut (h : See w A vs) (k : Nat) {c n : Nat} (hc : vs.length ≤ n) (hn : c = n → vs.length ≤ k) : See w (if c = n then A else A.map (·.add k)) (vs.drop k) := by
  by_cases e : c = n
  · exact .inl (List.drop_eq_nil_of_le (hn e))
  · rw [if_neg e]
    rcases h with h | ⟨ad, rfl, h⟩
    · subst h; exact .inl (by simp)
    · exact .inr ⟨ad.add k, rfl, fun j u hu => by rw [addr_add]; exact h _ u (by rw [← hu, List.getElem?_drop])⟩
theorem See.drop (h : See w A vs) (k : Nat) : See w (A.map (·.add k)) (vs.drop k) := by
  rcases h with h | ⟨ad, rfl, h⟩
  · subst h; exact .inl (by simp)
  · exact .inr ⟨ad.add k, rfl, fun j u hu => by rw [addr_add]; exact h _ u (by rw [← hu, List.getElem?_drop])⟩
theorem See.take (h : See w A vs) (k : Nat) : See w A (vs.take k) := by
  rcases h with h | ⟨ad, hA, h⟩
  · subst h; exact .inl (by simp)
  · refine .inr ⟨ad, hA, fun j u hu => h j u ?_⟩
    rw [List.getElem?_take] at hu
    split at hu
    · exact hu
    · cases hu
theorem See.of_own {base : Nat} {e : TypeId} {size n c : Nat} (h : w.ownsRow base e size (.slice A n c) n vs) : See w A vs := by
  rcases h.2 with ⟨hv, hn⟩ | ⟨g, cap, cur, hv, _⟩
  · subst hn; exact .inl (List.eq_nil_of_length_eq_zero (by simpa using h.1))
  · have hA : A = some ⟨g, 0, none⟩ := by injection hv
    subst hA
    exact .inr ⟨_, rfl, h.cells (g := g) rfl⟩
end

/-- A slice value shows the n elements whose cells are vs; its numbers are in order. -/
structure Sl (w : World) (A : Option Addr) (n c size : Nat) (vs : List Value) : Prop where
  see : See w A vs
  len : vs.length = n * size
  cap : n ≤ c
  max : c ≤ maxLen
section
variable {w w' : World} {A : Option Addr} {n c size : Nat} {vs : List Value}
theorem Sl.below (h : Sl w A n c size vs) (hb : Below w.heap.size w w') : Sl w' A n c size vs := ⟨h.see.below hb, h.len, h.cap, h.max⟩
theorem Sl.drew (h : Sl w A n c size vs) : Sl w.drew A n c size vs := ⟨h.see, h.len, h.cap, h.max⟩
theorem Sl.drewN (h : Sl w A n c size vs) (k : Nat) : Sl (w.drewN k) A n c size vs := ⟨h.see, h.len, h.cap, h.max⟩
theorem Sl.alloc (h : Sl w A n c size vs) (o : Obj) : Sl (w.alloc o) A n c size vs := ⟨h.see.alloc o, h.len, h.cap, h.max⟩
theorem Sl.grown (h : Sl w A n c size vs) {row : Option Nat} (hg : w.grownBy w' row) (hne : vs ≠ [] → ∀ ad, A = some ad → some ad.block ≠ row) : Sl w' A n c size vs :=
  ⟨h.see.grown hg hne, h.len, h.cap, h.max⟩
theorem Sl.none_ (h : Sl w none n c size vs) (hs : 0 < size) : n = 0 := by
  rcases h.see with h0 | ⟨ad, h0, _⟩
  · have := h.len
    rw [h0] at this
    rcases Nat.mul_eq_zero.1 this.symm with h1 | h1
    · exact h1
    · omega
  · cases h0
theorem Sl.of_none (h : Sl w A n c size vs) (hs : 0 < size) : A = none → n = 0 := by rintro rfl; exact h.none_ hs
/-- The elements from the k-th up to the m-th. -/
theorem Sl.sub (h : Sl w A n c size vs) {k m K : Nat} (hk : k ≤ m) (hm : m ≤ n) (hK : K = k * size) : Sl w (A.map (fun x => x.add K)) (m - k) (c - k) size ((vs.drop K).take ((m - k) * size)) := by
  have h1 := h.len
  have h2 := h.cap
  have h3 := h.max
  refine ⟨(h.see.drop K).take _, ?_, by omega, by omega⟩
  have e : (m - k) * size + k * size = m * size := by rw [← Nat.add_mul, Nat.sub_add_cancel hk]
  have e2 : m * size ≤ n * size := Nat.mul_le_mul_right _ hm
  rw [List.length_take, List.length_drop, h1, hK]
  omega
theorem Sl.sub0 (h : Sl w A n c size vs) {m : Nat} (hm : m ≤ n) : Sl w A m c size (vs.take (m * size)) := by
  have h1 := h.len
  have h2 := h.cap
  have e2 : m * size ≤ n * size := Nat.mul_le_mul_right _ hm
  exact ⟨h.see.take _, by rw [List.length_take, h1]; omega, by omega, h.max⟩
theorem Sl.nil_ (w : World) (size : Nat) : Sl w none 0 0 size [] := ⟨.inl rfl, by simp, Nat.le_refl _, Nat.zero_le _⟩
end

theorem own_form {w : World} {base : Nat} {e : TypeId} {size n : Nat} {v : Value} {vs : List Value} (h : w.ownsRow base e size v n vs) :
    ∃ A c, v = .slice A n c ∧ n ≤ c ∧ c ≤ maxLen ∧ (A = none ∨ ∃ g, A = some ⟨g, 0, none⟩ ∧ base ≤ g ∧ g < w.heap.size) := by
  rcases h.2 with ⟨rfl, rfl⟩ | ⟨g, cap, cur, rfl, hb, hg, h1, h2, _⟩
  · exact ⟨_, _, rfl, Nat.le_refl _, Nat.zero_le _, .inl rfl⟩
  · exact ⟨_, _, rfl, h1, h2, .inr ⟨g, rfl, hb, (Array.getElem?_eq_some_iff.1 hg).1⟩⟩
theorem own_sl {w : World} {base : Nat} {e : TypeId} {size n c : Nat} {A : Option Addr} {vs : List Value} (h : w.ownsRow base e size (.slice A n c) n vs) : Sl w A n c size vs := by
  obtain ⟨A', c', hv, h1, h2, _⟩ := own_form h
  obtain ⟨rfl, rfl⟩ : A = A' ∧ c = c' := by injection hv with a b d; exact ⟨a, d⟩
  exact ⟨See.of_own h, h.1, h1, h2⟩
theorem own_below {w w' : World} {base : Nat} {e : TypeId} {size n : Nat} {v : Value} {vs : List Value} (h : w.ownsRow base e size v n vs) (hb : Below w.heap.size w w') : w'.ownsRow base e size v n vs :=
  h.kept (row := none) ⟨hb.os, hb.tape, hb.output, hb.size, fun k hk _ => hb.block k hk⟩ (by cases hv : v.ownBlock <;> simp)
theorem own_lower {w : World} {base base' : Nat} {e : TypeId} {size n : Nat} {v : Value} {vs : List Value} (h : w.ownsRow base e size v n vs) (hb : base' ≤ base) : w.ownsRow base' e size v n vs := by
  refine ⟨h.1, ?_⟩
  rcases h.2 with h2 | ⟨g, cap, cur, hv, hg, r⟩
  · exact .inl h2
  · exact .inr ⟨g, cap, cur, hv, Nat.le_trans hb hg, r⟩
theorem own_drewN {w : World} {base : Nat} {e : TypeId} {size n : Nat} {v : Value} {vs : List Value} (h : w.ownsRow base e size v n vs) (k : Nat) : (w.drewN k).ownsRow base e size v n vs := h
/-- Two rows of the call's own, the second laid behind the first, lie apart. -/
theorem own_apart {w w1 : World} {base B : Nat} {e : TypeId} {size n m : Nat} {v v1 : Value} {vs vs1 : List Value} {e1 : TypeId} {size1 : Nat}
    (h : w.ownsRow base e size v n vs) (h1 : w1.ownsRow B e1 size1 v1 m vs1) (hB : w.heap.size ≤ B) : v.ownBlock = none ∨ v.ownBlock ≠ v1.ownBlock := by
  cases hv : v.ownBlock with
  | none => exact .inl rfl
  | some k =>
    refine .inr fun e => ?_
    have a := (h.lt k hv).2
    have b := (h1.lt k e.symm).1
    omega
theorem own_apart' {w w1 : World} {base B : Nat} {e : TypeId} {size n m : Nat} {v v1 : Value} {vs vs1 : List Value} {e1 : TypeId} {size1 : Nat}
    (h : w.ownsRow base e size v n vs) (h1 : w1.ownsRow B e1 size1 v1 m vs1) (hB : w.heap.size ≤ B) : v1.ownBlock = none ∨ v1.ownBlock ≠ v.ownBlock := by
  cases hv : v1.ownBlock with
  | none => exact .inl rfl
  | some k =>
    refine .inr fun e => ?_
    have a := (h1.lt k hv).1
    have b := (h.lt k e.symm).2
    omega
theorem below_of_grown {w w' : World} {row : Option Nat} (hg : w.grownBy w' row) {B : Nat} (hB : B ≤ w.heap.size) (hr : ∀ k, row = some k → B ≤ k) : Below B w w' :=
  (Below.refl B w).grown hg hB hr
theorem below_drewN {B : Nat} {a w : World} (h : Below B a w) (n : Nat) : Below B a (w.drewN n) := ⟨h.os, h.tape, h.output, h.size, h.block⟩
theorem grown_of_below {w w' : World} (hb : Below w.heap.size w w') (row : Option Nat) : w.grownBy w' row := ⟨hb.os, hb.tape, hb.output, hb.size, fun k hk _ => hb.block k hk⟩
theorem grown_of_below' {w w' : World} {B : Nat} (hb : Below B w w') (hB : w.heap.size ≤ B) (row : Option Nat) : w.grownBy w' row := grown_of_below (hb.mono hB) row
/-- Behind two calls: what lay ahead of both. -/
theorem below_next {w w1 w2 : World} (h : Below w.heap.size w w1) (h' : Below w1.heap.size w1 w2) : Below w.heap.size w w2 := h.trans (h'.mono h.size)

/-- What the append law asks of an element's type. -/
structure Elt (P : Program) (t e : TypeId) (size bytes : Nat) : Prop where
  ty : P.underlying t = some (.slice e)
  info : ∃ (i : TypeInfo) (z : Value), P.info? e = some i ∧ i.zero = some z ∧ i.size = size ∧ i.bytes = bytes ∧ z.cells.size = size
  pos : 0 < size

theorem elt_mk {P : Program} {t e : TypeId} {z : Value} {size bytes : Nat} (h : (P.info? e).map (fun i => (i.zero, i.size, i.bytes)) = some (some z, size, bytes)) (hz : z.cells.size = size)
    (ty : P.underlying t = some (.slice e)) (pos : 0 < size) : Elt P t e size bytes := by
  obtain ⟨i, hi, h0, h1, h2⟩ := info_parts h
  exact ⟨ty, ⟨i, z, hi, h0, h1, h2, hz⟩, pos⟩

section
variable {P : Program} (w : World)
theorem run_append_none (base : Nat) (t ty e : TypeId) (i : TypeInfo) (size : Nat) (ht : P.underlying t = some (.slice e)) (hi : P.info? e = some i)
    (v : Value) (n : Nat) (xs : List Value) (hown : w.ownsRow base e size v n xs) (c : Nat) : (Builtin.append_ #[t, t] ty #[v, .slice none 0 c]).run P w = .ok v w := by
  rcases hown.2 with ⟨rfl, rfl⟩ | ⟨g, cap, cur, rfl, _, _, hnc, _⟩
  · simp [Builtin.append_, run_underlying ht, sizeOf, typeInfo, hi, Builtin.lenOf, Builtin.firstCells]
  · simp [Builtin.append_, run_underlying ht, sizeOf, typeInfo, hi, Builtin.lenOf, Builtin.firstCells, hnc, storeCells]

/-- append onto a row of the call's own, from a slice that shows news. -/
theorem run_append_see {t e : TypeId} {size bytes : Nat} (E : Elt P t e size bytes) (ty : TypeId) (base : Nat) (v : Value) (n : Nat) (xs : List Value) (hown : w.ownsRow base e size v n xs)
    (A : Option Addr) (m c : Nat) (news : List Value) (hs : See w A news) (hA : A = none → m = 0) (hl : news.length = m * size) (h1 : ∀ u ∈ news, u.oneCell' = true)
    (h63 : n + m ≤ maxLen) (hbytes : (n + m) * bytes ≤ 140737488355328) (hbase : base ≤ w.heap.size) :
    ∃ v' w', (Builtin.append_ #[t, t] ty #[v, .slice A m c]).run P w = .ok v' w' ∧ w'.ownsRow base e size v' (n + m) (xs ++ news) ∧ w.grownBy w' v.ownBlock ∧
      (v'.ownBlock = v.ownBlock ∨ v'.ownBlock = some w.heap.size) := by
  obtain ⟨ht, ⟨i, z, hi, hz, hsize, hby, hzs⟩, hpos⟩ := E
  rcases A with _ | ad
  · obtain rfl := hA rfl
    have hn : news = [] := List.eq_nil_of_length_eq_zero (by simpa using hl)
    subst hn
    exact ⟨v, w, run_append_none w base t ty e i size ht hi v n xs hown c, by simpa using hown, World.grownBy.refl w _, .inl rfl⟩
  · have hcells : ∀ j u, news[j]? = some u → w.cell? (ad.add j) = some u := by
      intro j u hu
      rcases hs with h | ⟨ad', h, hc⟩
      · subst h; simp at hu
      · injection h with h; subst h; exact hc j u hu
    obtain ⟨v', w', hrun, h2, h3, _, h5⟩ := run_append_own_at (P := P) w base t ty e i z size bytes ht hi hz hsize hby hzs hpos v n xs hown ad m c news hl hcells h1 h63 hbytes hbase
    exact ⟨v', w', hrun, h2, h3, h5⟩

theorem wp_append_see {o : Oper} {a : Act} {K : Act → World → Prop} {Q : Exit → Act → World → Prop} (s x : Operand) {t e : TypeId} {size bytes : Nat} (E : Elt P t e size bytes)
    (ho : o.op = .call { callee := .builtin .append, args := #[s, x], argTypes := #[t, t] })
    (base : Nat) (v : Value) (n : Nat) (xs : List Value) (hs : a.eval s = v) (hown : w.ownsRow base e size v n xs)
    (A : Option Addr) (m c : Nat) (news : List Value) (hx : a.eval x = .slice A m c) (hsee : See w A news) (hA : A = none → m = 0) (hl : news.length = m * size) (h1 : ∀ u ∈ news, u.oneCell' = true)
    (h63 : n + m ≤ maxLen) (hbytes : (n + m) * bytes ≤ 140737488355328) (hbase : base ≤ w.heap.size)
    (h : ∀ v' w', w'.ownsRow base e size v' (n + m) (xs ++ news) → w.grownBy w' v.ownBlock → (v'.ownBlock = v.ownBlock ∨ v'.ownBlock = some w.heap.size) → K (a.put o.dst v') w') : o.wp P a w K Q := by
  obtain ⟨v', w', hrun, h2, h3, h4⟩ := run_append_see (P := P) w E o.type base v n xs hown A m c news hsee hA hl h1 h63 hbytes hbase
  unfold Oper.wp execOp
  simp only [ho, resolve, invoke, builtin, Sem.run_bind, Sem.run_pure, Result.andThen_ok, List.map_toArray, List.map_cons, List.map_nil, hs, hx, hrun]
  exact h v' w' h2 h3 h4

/-- At the operation, for the walk. -/
theorem wpList_append_see {ops : Array Oper} {rest : List Oper} {o : Oper} {a : Act} {Q : Exit → Act → World → Prop} (hgd : o.guard = none) (s x : Operand) {t e : TypeId} {size bytes : Nat} (E : Elt P t e size bytes)
    (ho : o.op = .call { callee := .builtin .append, args := #[s, x], argTypes := #[t, t] })
    (base : Nat) (v : Value) (n : Nat) (xs : List Value) (hs : a.eval s = v) (hown : w.ownsRow base e size v n xs)
    (A : Option Addr) (m c : Nat) (news : List Value) (hx : a.eval x = .slice A m c) (hsee : See w A news) (hA : A = none → m = 0) (hl : news.length = m * size) (h1 : ∀ u ∈ news, u.oneCell' = true)
    (h63 : n + m ≤ maxLen) (hbytes : (n + m) * bytes ≤ 140737488355328) (hbase : base ≤ w.heap.size)
    (h : ∀ v' w', w'.ownsRow base e size v' (n + m) (xs ++ news) → w.grownBy w' v.ownBlock → (v'.ownBlock = v.ownBlock ∨ v'.ownBlock = some w.heap.size) → wpList P ops Q rest (a.put o.dst v') w') : wpList P ops Q (o :: rest) a w :=
  wpList_plain hgd fun _ hK => wp_append_see w s x E ho base v n xs hs hown A m c news hx hsee hA hl h1 h63 hbytes hbase fun v' w' h2 h3 h4 => hK _ _ (h v' w' h2 h3 h4)
end

/-- What a law's walk is told of a slice of integers that came in. -/
structure Row (k : IntKind) (w : World) (A : Option Addr) (len cap : Nat) (zs : List Int) : Prop where
  sl : Sl w A len cap 1 (zs.map (Value.int k))
  wf : ∀ z ∈ zs, (Lit.int k z).wf = true
theorem Row.byte {w : World} {A : Option Addr} {len cap : Nat} {zs : List Int} (h : Row .u8 w A len cap zs) : ∀ z ∈ zs, 0 ≤ z ∧ z ≤ 255 := by
  intro z hz
  have := h.wf z hz
  have h2 : IntKind.u8.min ≤ z ∧ z ≤ IntKind.u8.max := by simpa [Lit.wf] using this
  exact h2
theorem row_nil (k : IntKind) (w : World) : Row k w none 0 0 [] := ⟨Sl.nil_ _ _, by simp⟩
theorem row_some {k : IntKind} {w : World} {x : Addr} {l c : Nat} {zs : List Int} (hl : l ≤ c) (hm : c ≤ maxLen) (hz : zs.length = c)
    (hc : ∀ i, i < zs.length → w.cell? (x.add i) = some (.int k (zs.getD i 0))) (hw : ∀ n ∈ zs, (Lit.int k n).wf = true) : Row k w (some x) l c (zs.take l) := by
  refine ⟨⟨.inr ⟨x, rfl, fun j u hu => ?_⟩, by simp; omega, hl, hm⟩, fun z hz' => hw z (List.mem_of_mem_take hz')⟩
  rw [List.getElem?_map, List.getElem?_take] at hu
  split at hu
  · rename_i hj
    have hjz : j < zs.length := by omega
    rw [hc j hjz, List.getD_eq_getElem?_getD]
    rw [List.getElem?_eq_getElem hjz] at hu ⊢
    simpa using hu
  · simp at hu
end Go.Proofs.YtoagpfdhbcgdcaaDoor
end
section
/- Worlds with new blocks and draws alone: the class in which a call that only makes boxes of its own is quiet. -/
namespace Go.Proofs.YtoagpfdhbcgdcaaDoor
open Go.RowKit

/-- New blocks, and how many draws. -/
structure Ext where
  os : List Obj
  n : Nat
instance : Nonempty Ext := ⟨⟨[], 0⟩⟩
def More (w : World) (x : Ext) : World := { w with heap := w.heap ++ x.os.toArray, drawn := x.n }
theorem more_refl (w : World) : w = More w ⟨[], w.drawn⟩ := by simp [More]
theorem more_drew (w : World) : w.drew = More w ⟨[], w.drawn + 1⟩ := by cases w; simp [More]; rfl
theorem more_drewN (w : World) (k : Nat) : w.drewN k = More w ⟨[], w.drawn + k⟩ := by simp [More, World.drewN]
theorem more_alloc (w : World) (o : Obj) : w.alloc o = More w ⟨[o], w.drawn⟩ := by cases w; simp [More]; rfl
theorem more_more (w : World) (x y : Ext) : More (More w x) y = More w ⟨x.os ++ y.os, y.n⟩ := by simp [More]
theorem more_of_below {w w' : World} (h : Below w.heap.size w w') : ∃ x, w' = More w x := by
  obtain ⟨heap', tape', drawn', os', output'⟩ := w'
  obtain ⟨h1, h2, h3, h4, h5⟩ := h
  simp only at h1 h2 h3 h4 h5
  subst h1 h2 h3
  refine ⟨⟨heap'.toList.drop w.heap.size, drawn'⟩, ?_⟩
  unfold More
  congr 1
  apply Array.ext_getElem?
  intro k
  rw [Array.getElem?_append]
  split
  · rename_i hk; exact h5 k hk
  · rename_i hk
    show heap'[k]? = (List.drop w.heap.size heap'.toList).toArray[k - w.heap.size]?
    simp [Nat.add_sub_cancel' (show w.heap.size ≤ k by omega)]
/-- w' is w with new blocks and draws alone. -/
def Ext.of (w w' : World) : Prop := ∃ x, w' = More w x
theorem Ext.of.refl (w : World) : Ext.of w w := ⟨_, more_refl w⟩
theorem Ext.of.trans {a b c : World} (h : Ext.of a b) (k : Ext.of b c) : Ext.of a c := by
  obtain ⟨x, rfl⟩ := h; obtain ⟨_, rfl⟩ := k; exact ⟨_, more_more _ _ _⟩
theorem Ext.of.alloc {a b : World} (h : Ext.of a b) (o : Obj) : Ext.of a (b.alloc o) := h.trans ⟨_, more_alloc _ _⟩
theorem Ext.of.drew {a b : World} (h : Ext.of a b) : Ext.of a b.drew := h.trans ⟨_, more_drew _⟩
theorem Ext.of.drewN {a b : World} (h : Ext.of a b) (k : Nat) : Ext.of a (b.drewN k) := h.trans ⟨_, more_drewN _ _⟩
theorem more_below (w : World) (x : Ext) : Below w.heap.size w (More w x) :=
  ⟨rfl, rfl, rfl, by simp [More], fun k hk => by simp only [More]; rw [Array.getElem?_append_left hk]⟩
theorem Ext.of.below {w w' : World} (h : Ext.of w w') : Below w.heap.size w w' := by obtain ⟨x, rfl⟩ := h; exact more_below w x
theorem more_cell {w : World} {a : Addr} {v : Value} (h : w.cell? a = some v) : ∀ x, (More w x).cell? a = some v := fun x => ((more_below w x).cell (World.block_lt_of_cell? w a h)).trans h
theorem more_cell2 {w : World} {a : Addr} {v : Value} (h : w.cell? a = some v) (y : Ext) : ∀ x, (More (More w y) x).cell? a = some v := more_cell (more_cell h y)

theorem Ext.of_below {w w' : World} (h : Below w.heap.size w w') : Ext.of w w' := more_of_below h
theorem Ext.of.block {w w' : World} (h : Ext.of w w') {k : Nat} (hk : k < w.heap.size) : w'.heap[k]? = w.heap[k]? := h.below.block k hk
theorem Ext.of.size {w w' : World} (h : Ext.of w w') : w.heap.size ≤ w'.heap.size := h.below.size
theorem Ext.of.cell {w w' : World} (h : Ext.of w w') {p : Addr} {v : Value} (hc : w.cell? p = some v) : w'.cell? p = some v := by obtain ⟨x, rfl⟩ := h; exact more_cell hc x
theorem Sl.ext {w w' : World} {A : Option Addr} {n c size : Nat} {vs : List Value} (h : Sl w A n c size vs) (hx : Ext.of w w') : Sl w' A n c size vs := h.below hx.below
theorem Sl.more {w : World} {A : Option Addr} {n c size : Nat} {vs : List Value} (h : Sl w A n c size vs) (x : Ext) : Sl (More w x) A n c size vs := h.below (more_below w x)
theorem own_more {w : World} {base : Nat} {e : TypeId} {size n : Nat} {v : Value} {vs : List Value} (h : w.ownsRow base e size v n vs) (x : Ext) : (More w x).ownsRow base e size v n vs := own_below h (more_below w x)
theorem own_ext {w w' : World} {base : Nat} {e : TypeId} {size n : Nat} {v : Value} {vs : List Value} (h : w.ownsRow base e size v n vs) (hx : Ext.of w w') : w'.ownsRow base e size v n vs := own_below h hx.below

theorem alloc_new' {w : World} {B : Nat} {cs : Array Value} {T : TypeId} (hB : B = w.heap.size) : (w.alloc (.cells cs T)).heap[B]? = some (.cells cs T (0, 0)) := by subst hB; exact heap_alloc_new w _
theorem alloc_old {w : World} {B : Nat} {o o' : Obj} (h : w.heap[B]? = some o') : (w.alloc o).heap[B]? = some o' := by
  have hlt := (Array.getElem?_eq_some_iff.1 h).1
  exact (Below.heap_alloc w o B hlt).trans h
/-- A region that draws its order, whose operations read and whose calls make new blocks alone: one walk serves every order. -/
theorem wp_region_more {P : Program} {id : Nat} {Q : Exit → Act → World → Prop} {a : Act} {w : World} {l : List Oper} (hm : P.follows .mixedOrders = true) (hB : Region.lexB .any l.toArray = true)
    (h : wpQuiet P l.toArray (fun w' => ∃ x, w' = More w x) (fun a' => ∀ w', (∃ x, w' = More w x) → Q .normal a' w') l a) : (Code.region id l.toArray true).wp P Q a w :=
  wp_region_quiet (C := fun w' => ∃ x, w' = More w x) hm hB ⟨_, more_drew w⟩ (by simpa using h)
/-- A callee's contract, met in such a world. -/
theorem more_of {P : Program} {f : FuncId} {args : Array Value} {w : World} {x : Ext} {v : Value}
    (h : Calls P f args (More w x) fun e w' => e = .returned v ∧ Ext.of (More w x) w') : Calls P f args (More w x) fun e w'' => e = .returned v ∧ ∃ y, w'' = More w y :=
  h.mono fun _ _ ⟨he, _, hy⟩ => ⟨he, _, hy.trans (more_more _ _ _)⟩
theorem more_same {P : Program} {f : FuncId} {args : Array Value} {w : World} {x : Ext} {v : Value}
    (h : Calls P f args (More w x) fun e w' => e = .returned v ∧ More w x = w') : Calls P f args (More w x) fun e w'' => e = .returned v ∧ ∃ y, w'' = More w y :=
  h.mono fun _ _ ⟨he, hy⟩ => ⟨he, _, hy.symm⟩
end Go.Proofs.YtoagpfdhbcgdcaaDoor
end
section
/- Lists of things of several cells: how their cells lie, and how a slice that shows them is read. -/
namespace Go.Proofs.YtoagpfdhbcgdcaaDoor
open Go.RowKit
set_option linter.unusedVariables false

/-- A cell behind the first of a thing, as the walk spells it. -/
theorem addr_step (ad : Addr) (m i : Nat) (hi : 0 < i) : (⟨(ad.add m).block, (ad.add m).off + i, none⟩ : Addr) = ad.add (m + i) := by
  rw [← addr_add]
  generalize ad.add m = b
  unfold Addr.add
  rw [if_neg (by omega)]
section
variable {α : Type} {f : α → List Value} {k : Nat} {xs : List α}
/-- The cells of a list of things. -/
def flat (f : α → List Value) (xs : List α) : List Value := xs.flatMap f
theorem flat_nil : flat f [] = [] := rfl
theorem flat_cons (x : α) : flat f (x :: xs) = f x ++ flat f xs := rfl
theorem flat_append (ys : List α) : flat f (xs ++ ys) = flat f xs ++ flat f ys := by simp [flat]
theorem flat_length (hk : ∀ x, (f x).length = k) : ∀ xs : List α, (flat f xs).length = xs.length * k
  | [] => by simp [flat]
  | x :: xs => by rw [flat_cons, List.length_append, hk, flat_length hk xs, List.length_cons, Nat.succ_mul]; omega
theorem flat_get (hk : ∀ x, (f x).length = k) : ∀ {xs : List α} {j : Nat} {x : α}, xs[j]? = some x → ∀ {i : Nat}, i < k → (flat f xs)[j * k + i]? = (f x)[i]?
  | [], j, x, h, _, _ => by simp at h
  | y :: ys, 0, x, h, i, hi => by
      simp at h; subst h
      rw [flat_cons, Nat.zero_mul, Nat.zero_add, List.getElem?_append_left (by rw [hk]; exact hi)]
  | y :: ys, j + 1, x, h, i, hi => by
      simp at h
      rw [flat_cons, List.getElem?_append_right (by rw [hk, Nat.succ_mul]; omega), hk, show (j + 1) * k + i - k = j * k + i by rw [Nat.succ_mul]; omega]
      exact flat_get hk h hi
theorem flat_take (hk : ∀ x, (f x).length = k) : ∀ (xs : List α) (j : Nat), (flat f xs).take (j * k) = flat f (xs.take j)
  | [], j => by simp [flat]
  | x :: xs, 0 => by simp [flat]
  | x :: xs, j + 1 => by
      rw [flat_cons, List.take_succ_cons, flat_cons, show (j + 1) * k = (f x).length + j * k by rw [hk, Nat.succ_mul]; omega, List.take_length_add_append, flat_take hk xs j]
theorem flat_drop (hk : ∀ x, (f x).length = k) : ∀ (xs : List α) (j : Nat), (flat f xs).drop (j * k) = flat f (xs.drop j)
  | [], j => by simp [flat]
  | x :: xs, 0 => by simp [flat]
  | x :: xs, j + 1 => by
      rw [flat_cons, List.drop_succ_cons, show (j + 1) * k = (f x).length + j * k by rw [hk, Nat.succ_mul]; omega, List.drop_length_add_append, flat_drop hk xs j]
theorem Sl.count {w : World} {A : Option Addr} {n c : Nat} (h : Sl w A n c k (flat f xs)) (hk : ∀ x, (f x).length = k) (hp : 0 < k) : xs.length = n := by
  have := h.len
  rw [flat_length hk] at this
  exact Nat.eq_of_mul_eq_mul_right hp this
/-- The j-th thing of a slice: its cells. -/
theorem Sl.elem {w : World} {A : Option Addr} {n c : Nat} (h : Sl w A n c k (flat f xs)) (hk : ∀ x, (f x).length = k) (hp : 0 < k) {j : Nat} (hj : j < n) :
    ∃ ad x, A = some ad ∧ xs[j]? = some x ∧ ∀ i u, (f x)[i]? = some u → w.cell? (ad.add (j * k + i)) = some u := by
  have hl := h.count hk hp
  have hv : flat f xs ≠ [] := fun e => by
    have := h.len
    rw [e] at this
    have h0 : 0 < n * k := Nat.mul_pos (by omega) hp
    simp at this; omega
  rcases h.see with h0 | ⟨ad, hA, hc⟩
  · exact absurd h0 hv
  · have hx : xs[j]? = some (xs[j]'(by omega)) := List.getElem?_eq_getElem (by omega)
    refine ⟨ad, _, hA, hx, fun i u hu => hc _ u ?_⟩
    have hi : i < k := by have := (List.getElem?_eq_some_iff.1 hu).1; rwa [hk] at this
    rw [flat_get hk hx hi, hu]
end
/-- The elements from the k-th to the end, as 's[k:]' spells it. -/
theorem Sl.cut {w : World} {A : Option Addr} {n c size : Nat} {vs : List Value} (h : Sl w A n c size vs) {k K : Nat} (hk : k ≤ n) (hK : K = k * size) : Sl w (if c = k then A else A.map (fun x => x.add K)) (n - k) (c - k) size (vs.drop K) := by
  have h1 := h.len
  have h2 := h.cap
  have h3 := h.max
  by_cases e : c = k
  · have hd : vs.drop K = [] := List.drop_eq_nil_of_le (by rw [h1, hK]; exact Nat.mul_le_mul_right _ (by omega))
    rw [hd]
    exact ⟨.inl rfl, by rw [show n - k = 0 by omega]; simp, by omega, by omega⟩
  · rw [if_neg e]
    refine ⟨h.see.drop K, by rw [List.length_drop, h1, hK, Nat.sub_mul], by omega, by omega⟩
theorem own_old {w : World} {base : Nat} {e : TypeId} {size g n c : Nat} {vs : List Value} (h : w.ownsRow base e size (.slice (some ⟨g, 0, none⟩) n c) n vs) {k : Nat} (hk : k < n * size) :
    ∃ u, vs[k]? = some u ∧ w.cell? ⟨g, k, none⟩ = some u := by
  have hl := h.1
  exact ⟨vs[k]'(by omega), by simp, by rw [h.cellAt k (by omega)]; simp⟩
theorem take_set_snoc {vs ws : List Value} {k : Nat} {u : Value} (h : vs.take k = ws.take k) (hk : k < vs.length) (hu : ws[k]? = some u) : (vs.set k u).take (k + 1) = ws.take (k + 1) := by
  have hkw : k < ws.length := by
    rcases Nat.lt_or_ge k ws.length with h1 | h1
    · exact h1
    · rw [List.getElem?_eq_none h1] at hu; cases hu
  rw [List.take_succ_eq_append_getElem (by simpa using hk), List.take_succ_eq_append_getElem hkw]
  rw [List.getElem?_eq_getElem hkw] at hu
  injection hu with hu
  simp [List.take_set_of_le, h, hu]
theorem take_next {α : Type} {xs ys : List α} {k : Nat} {x : α} (h : xs.take k = ys.take k) (hx : xs[k]? = some x) (hy : ys[k]? = some x) : xs.take (k + 1) = ys.take (k + 1) := by
  rw [List.take_add_one, List.take_add_one, h, hx, hy]
theorem pair_lt0 {k n m : Nat} (h : k < n) (hm : 0 < m) : k * m < n * m := Nat.mul_lt_mul_of_pos_right h hm
theorem pair_lt {k n m : Nat} (h : k < n) {i : Nat} (hi : i < m) : k * m + i < n * m := by
  have : (k + 1) * m ≤ n * m := Nat.mul_le_mul_right _ h
  rw [Nat.succ_mul] at this; omega
end Go.Proofs.YtoagpfdhbcgdcaaDoor
end
section
/- Words for new slices: a literal's cells, an empty one, and what an append of a list or of one thing leaves. -/
namespace Go.Proofs.YtoagpfdhbcgdcaaDoor
open Go.RowKit
set_option linter.unusedVariables false

theorem see_new (w : World) (cs : List Value) (T : TypeId) (B : Nat) (hB : B = w.heap.size) : See (w.alloc (.cells cs.toArray T)) (some ⟨B, 0, none⟩) cs := by
  subst hB
  refine .inr ⟨_, rfl, fun j u hu => ?_⟩
  rw [addr_own, cell_of_row _ _ _ _ _ _ (heap_alloc_new w _)]
  simpa using hu
theorem own_empty (w : World) (e : TypeId) (size : Nat) : (w.alloc (.cells #[] e)).ownsRow w.heap.size e size (.slice (some ⟨w.heap.size, 0, none⟩) 0 0) 0 [] := by
  refine ⟨by simp, .inr ⟨w.heap.size, 0, #[], rfl, Nat.le_refl _, heap_alloc_new w _, Nat.le_refl _, Nat.zero_le _, by simp, by simp⟩⟩
theorem flat_one {α : Type} {f : α → List Value} (h : ∀ x, ∀ u ∈ f x, u.oneCell' = true) (xs : List α) : ∀ u ∈ flat f xs, u.oneCell' = true := by
  intro u hu
  obtain ⟨x, _, hx⟩ := List.mem_flatMap.1 hu
  exact h x u hx
theorem own_count {α : Type} {f : α → List Value} {xs : List α} {w : World} {base : Nat} {e : TypeId} {size n : Nat} {v : Value} (h : w.ownsRow base e size v n (flat f xs)) (hk : ∀ x, (f x).length = size) (hp : 0 < size) : n = xs.length := by
  have := h.1
  rw [flat_length hk] at this
  exact (Nat.eq_of_mul_eq_mul_right hp this).symm
theorem make_run {P : Program} {t e : TypeId} {size bytes : Nat} (E : Elt P t e size bytes) (c : Nat) (C : Int) (hC : C = (c : Int)) (hb : bytes * c ≤ 281474976710656) (hm : c ≤ 9223372036854775807) :
    ∃ cs : Array Value, cs.size = c * size ∧ ∀ W : World, (Instr.makeSlice t (.int .i64 0) (.int .i64 C)).run P W = .ok (.slice (some ⟨W.heap.size, 0, none⟩) 0 c) (W.alloc (.cells cs e)) := by
  obtain ⟨ht, ⟨i, z, hi, hz, hsize, hby, hzs⟩, hpos⟩ := E
  refine ⟨madeCells z.cells (c * size), size_madeCells _ _, fun W => ?_⟩
  have h1 : ((i.bytes * c : Nat) : Int) ≤ 281474976710656 := by rw [hby]; omega
  have hr := run_make (P := P) W t e i z ht hi hz .i64 .i64 0 C (by omega) (by omega) (by rw [hC]; rwa [Int.natCast_mul] at h1) (by omega)
  rw [hr, hC, Int.toNat_natCast, hsize]
  rfl
theorem own_made (w : World) (cs : Array Value) (e : TypeId) (size c B : Nat) (hB : B = w.heap.size) (h : cs.size = c * size) (hm : c ≤ maxLen) : (w.alloc (.cells cs e)).ownsRow B e size (.slice (some ⟨B, 0, none⟩) 0 c) 0 [] := by
  subst hB
  exact ⟨by simp, .inr ⟨w.heap.size, c, cs, rfl, Nat.le_refl _, heap_alloc_new w _, Nat.zero_le _, hm, h, by simp⟩⟩
theorem own_lit (w : World) (cs : List Value) (T : TypeId) (size n B : Nat) (hB : B = w.heap.size) (h : cs.length = n * size) (hn : n ≤ maxLen) : (w.alloc (.cells cs.toArray T)).ownsRow B T size (.slice (some ⟨B, 0, none⟩) n n) n cs := by
  subst hB
  exact ⟨h, .inr ⟨w.heap.size, n, cs.toArray, rfl, Nat.le_refl _, heap_alloc_new w _, Nat.le_refl _, hn, by simpa using h, by simp [← h]⟩⟩
theorem flat_single {α : Type} {f : α → List Value} (x : α) : flat f [x] = f x := by simp [flat]
end Go.Proofs.YtoagpfdhbcgdcaaDoor
end
section
/- The contract of the laws' marks: a text for each number. -/
namespace Go.Proofs.YtoagpfdhbcgdcaaDoor
open Go.RowKit
set_option linter.unusedVariables false

/-- The decimal digits of a number, ahead of a text. -/
def decB (k : Nat) (acc : ByteArray) : ByteArray := if h : k = 0 then acc else decB (k / 10) (⟨#[48 + UInt8.ofNat (k % 10)]⟩ ++ acc)
termination_by k
theorem decB_zero (acc : ByteArray) : decB 0 acc = acc := by rw [decB]; simp
theorem decB_step {k : Nat} (h : k ≠ 0) (acc : ByteArray) : decB k acc = decB (k / 10) (⟨#[48 + UInt8.ofNat (k % 10)]⟩ ++ acc) := by rw [decB]; simp [h]
@[irreducible] def mtB (k : Nat) : ByteArray := if k = 0 then ⟨#[109, 48]⟩ else ⟨#[109]⟩ ++ decB k ⟨#[]⟩
theorem mtB_pos {k : Nat} (h : k ≠ 0) : mtB k = ⟨#[109]⟩ ++ decB k ⟨#[]⟩ := by unfold mtB; rw [if_neg h]
theorem ret_str {a b : ByteArray} (h : a = b) : Ending.returned (.string a) = .returned (.string b) := by rw [h]
theorem conv_one (w : World) (d : Int) : (convert 22 9 (.slice (some ⟨w.heap.size, 0, none⟩) 1 1)).run Tryd.prog (w.alloc (.cells #[.int .u8 d] 5)) = .ok (.string ⟨#[UInt8.ofNat d.toNat]⟩) (w.alloc (.cells #[.int .u8 d] 5)) := by
  rw [run_convert_bytes_string _ _ _ 5 _ _ _ Tryd.underlying22 Tryd.underlying5 Tryd.underlying9]
  rw [run_bytesToString (w.alloc (.cells #[.int .u8 d] 5)) ⟨w.heap.size, 0, none⟩ 1 1 [d] (run_loadCells_list _ ⟨w.heap.size, 0, none⟩ [.int .u8 d] (fun j v h => by
    match j, h with
    | 0, h => simp at h; subst h; rw [addr_zero]; exact cell_of_row _ w.heap.size 0 _ _ _ (heap_alloc_new w _)
    | j + 1, h => simp at h))]
  rfl
theorem markText_any (k : Nat) (hk : 1 ≤ k) (hk2 : k ≤ 9000000000000000000) (w : World) : Calls Tryd.prog 66 #[.int .i64 k] w fun e w' => e = .returned (.string (mtB k)) ∧ Ext.of w w' := by
  have hP := hid (mtB_pos (k := k) (by omega))
  go_enter Tryd.func66, Tryd.ntmps66
  go_wp2
  go_loopw [0, 3] (fun q o wr => ∃ (j : Nat) (acc : ByteArray), acc.size + j ≤ k ∧ q = .int .i64 j ∧ o = .string acc ∧ Hid (decB j acc = decB k ⟨#[]⟩) ∧ Ext.of w wr) (fun q _ _ => (intOf q).toNat)
  case atStart => exact ⟨k, ⟨#[]⟩, by show 0 + k ≤ k; omega, rfl, rfl, rfl, Ext.of.refl _⟩
  case round =>
    obtain ⟨j, acc, hj, rfl, rfl, hd, hE⟩ := hrel
    by_cases h0 : j = 0
    · subst h0
      have R := hid (show ⟨#[109]⟩ ++ acc = mtB k by rw [hP.out, ← hd.out, decB_zero])
      go_wp2
      go_ret
      exact ⟨ret_str R.out, hE⟩
    · have hj0 : 0 < j := by omega
      have R := hid ((decB_step h0 acc).symm.trans hd.out)
      have hv := conv_one wr (48 + (j : Int) % 10)
      rw [show (48 + (j : Int) % 10).toNat = 48 + j % 10 by omega, UInt8.ofNat_add] at hv
      have hsz : ((⟨#[48 + UInt8.ofNat (j % 10)]⟩ : ByteArray) ++ acc).size = 1 + acc.size := by rw [ByteArray.size_append]; rfl
      have H := hid hsz
      clear hsz
      go_wp2
      go_roundw
      case rel => exact ⟨j / 10, _, by rw [H.out]; omega, by go_num, rfl, R, hE.alloc _⟩
      case measure => simp [intOf]; omega
theorem markText_at (k : Nat) (q : Int) (hq : q = (k : Int)) (hk : 1 ≤ k) (hk2 : k ≤ 9000000000000000000) (w : World) : Calls Tryd.prog 66 #[.int .i64 q] w fun e w' => e = .returned (.string (mtB k)) ∧ Ext.of w w' := by
  subst hq; exact markText_any k hk hk2 w
end Go.Proofs.YtoagpfdhbcgdcaaDoor
end
