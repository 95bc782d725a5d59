/- Valid feeds and the number of a key: plain facts, and the contract of itemNumber. -/
import Derived.Test.YtlfjnaeepblhiaaItems
import Derived.Test.YtlfjnaeepblhiaaItemV
import Derived.BigQuiet
namespace Go.Proofs.Ytlfjnaeepblhiaa
open Go.RowKit
set_option linter.unusedVariables false
set_option linter.unusedSimpArgs false
def imVal (x : Im) : Bool := imV x.1 x.2.1 x.2.2.1 x.2.2.2
abbrev keysOf (xs : List Im) : List ByteArray := xs.map (·.1)
/-- The number of the first item with a key. -/
@[irreducible] def numV (xs : List Im) (key : ByteArray) : Int := match xs.findIdx? (fun x => decide (x.1 = key)) with | some i => (i : Int) | none => -1
section
variable {xs : List Im} {key a b s : ByteArray} {d : Int} {k : Nat}
theorem keys_next (h : xs[k]? = some (a, b, s, d)) (hn : key ∉ keysOf (xs.take k)) (he : ¬ a = key) : key ∉ keysOf (xs.take (k + 1)) := by
  rw [List.take_add_one, h]
  simp only [Option.toList_some, keysOf, List.map_append, List.mem_append, List.map_cons, List.map_nil, List.mem_singleton]
  rintro (h1 | h1)
  · exact hn h1
  · exact he h1.symm
theorem num_none (h : key ∉ keysOf xs) : numV xs key = -1 := by
  unfold numV
  rw [List.findIdx?_eq_none_iff.2 (fun x hx => decide_eq_false fun e => h (by rw [← e]; exact List.mem_map_of_mem hx))]
theorem num_found (h : xs[k]? = some (a, b, s, d)) (hn : key ∉ keysOf (xs.take k)) (he : a = key) : numV xs key = k := by
  unfold numV
  have hk := (List.getElem?_eq_some_iff.1 h).1
  have : xs.findIdx? (fun x => decide (x.1 = key)) = some k := by
    rw [List.findIdx?_eq_some_iff_getElem]
    refine ⟨hk, ?_, fun j hj => ?_⟩
    · rw [(List.getElem?_eq_some_iff.1 h).2]; exact decide_eq_true he
    · have hj' : j < xs.length := by omega
      simp only [decide_eq_true_eq]
      intro e
      refine hn (List.mem_map.2 ⟨xs[j], ?_, e⟩)
      rw [List.mem_take_iff_getElem]
      exact ⟨j, by omega, rfl⟩
  rw [this]
theorem num_lt (xs : List Im) (key : ByteArray) : -1 ≤ numV xs key ∧ numV xs key < xs.length := by
  unfold numV
  cases h : xs.findIdx? (fun x => decide (x.1 = key)) with
  | none => simp only; omega
  | some i => have := (List.findIdx?_eq_some_iff_getElem.1 h).1; simp only; omega
theorem num_at {i : Nat} (h : numV xs key = i) : ∃ x, xs[i]? = some x ∧ x.1 = key := by
  unfold numV at h
  cases h' : xs.findIdx? (fun x => decide (x.1 = key)) with
  | none => rw [h'] at h; simp only at h; omega
  | some j =>
    rw [h'] at h
    simp only at h
    obtain rfl : j = i := by omega
    obtain ⟨h1, h2, _⟩ := List.findIdx?_eq_some_iff_getElem.1 h'
    exact ⟨xs[j], List.getElem?_eq_getElem h1, by simpa using h2⟩
theorem num_neg (xs : List Im) (key : ByteArray) : numV xs key < 0 ↔ key ∉ keysOf xs := by
  constructor
  · intro h hm
    obtain ⟨x, hx, hk⟩ := List.mem_map.1 hm
    unfold numV at h
    cases h' : xs.findIdx? (fun x => decide (x.1 = key)) with
    | none => rw [List.findIdx?_eq_none_iff] at h'; have := h' x hx; simp at this; exact this hk
    | some j => rw [h'] at h; simp only at h; omega
  · intro h; rw [num_none h]; omega
/-- Whether a key is there. -/
def hasI (xs : List Im) (key : ByteArray) : Bool := xs.any fun y => decide (y.1 = key)
theorem hasI_iff : hasI xs key = true ↔ key ∈ keysOf xs := by unfold hasI; simp
theorem hasI_not : hasI xs key = false ↔ key ∉ keysOf xs := by rw [← hasI_iff]; simp
/-! ### Feeds -/
@[irreducible] def fdAt (xs : List Im) (k : Nat) : Bool := match xs[k]? with | some x => imVal x && !hasI (xs.take k) x.1 | none => true
def fdTo (xs : List Im) (k : Nat) : Bool := (List.range k).all (fdAt xs)
/-- What FeedValid returns. -/
@[irreducible] def fdV (xs : List Im) : Bool := decide (xs.length ≤ 8) && fdTo xs xs.length
theorem fdTo_succ (xs : List Im) (k : Nat) : fdTo xs (k + 1) = (fdTo xs k && fdAt xs k) := by unfold fdTo; rw [List.range_succ, List.all_append]; simp
theorem fdTo_not {n : Nat} (hk : k < n) (h : fdAt xs k = false) : fdTo xs n = false := by
  unfold fdTo
  rw [Bool.eq_false_iff]
  intro e
  have := List.all_eq_true.1 e k (by simpa using hk)
  rw [h] at this; cases this
theorem fd_no1 (h : ¬ xs.length ≤ 8) : fdV xs = false := by unfold fdV; simp [h]
theorem fd_no2 (hk : k < xs.length) (h : fdAt xs k = false) : fdV xs = false := by unfold fdV; rw [fdTo_not hk h]; simp
theorem fd_yes (h1 : xs.length ≤ 8) (h2 : fdTo xs xs.length = true) : fdV xs = true := by unfold fdV; simp [h1, h2]
theorem fd_end (h2 : fdTo xs xs.length = true) : fdV xs = decide (xs.length ≤ 8) := by unfold fdV; simp [h2]
theorem fdAt_no1 (h : xs[k]? = some (a, b, s, d)) (e : imV a b s d = false) : fdAt xs k = false := by unfold fdAt; rw [h]; simp [imVal, e]
theorem fdAt_eq (h : xs[k]? = some (a, b, s, d)) (e : imV a b s d = true) : fdAt xs k = !hasI (xs.take k) a := by unfold fdAt; rw [h]; simp [imVal, e]
theorem fd_parts (h : fdV xs = true) : xs.length ≤ 8 ∧ fdTo xs xs.length = true := by unfold fdV at h; simpa using h
theorem fd_iff : fdV xs = true ↔ xs.length ≤ 8 ∧ (∀ x ∈ xs, imVal x = true) ∧ (keysOf xs).Nodup := by
  have h0 : fdV xs = true ↔ xs.length ≤ 8 ∧ fdTo xs xs.length = true := by unfold fdV; simp
  rw [h0]
  refine and_congr_right fun _ => ?_
  have h1 : fdTo xs xs.length = true ↔ ∀ k x, xs[k]? = some x → imVal x = true ∧ x.1 ∉ keysOf (xs.take k) := by
    unfold fdTo
    rw [List.all_eq_true]
    constructor
    · intro h k x hx
      have := h k (by have := (List.getElem?_eq_some_iff.1 hx).1; simpa using this)
      unfold fdAt at this
      rw [hx] at this
      simp only [Bool.and_eq_true, Bool.not_eq_true', hasI_not] at this
      exact this
    · intro h k hk
      have hk : k < xs.length := by simpa using hk
      have := h k _ (List.getElem?_eq_getElem hk)
      unfold fdAt
      rw [List.getElem?_eq_getElem hk]
      simp only [Bool.and_eq_true, Bool.not_eq_true', hasI_not]
      exact this
  rw [h1]
  constructor
  · intro h
    refine ⟨fun x hx => ?_, ?_⟩
    · obtain ⟨k, hk, rfl⟩ := List.mem_iff_getElem.1 hx
      exact (h k _ (List.getElem?_eq_getElem hk)).1
    · unfold List.Nodup
      rw [List.pairwise_iff_getElem]
      intro i j hi hj hij e
      have hj' : j < xs.length := by simpa using hj
      have hi' : i < xs.length := by simpa using hi
      refine (h j _ (List.getElem?_eq_getElem hj')).2 (List.mem_map.2 ⟨xs[i], ?_, by simpa using e⟩)
      rw [List.mem_take_iff_getElem]
      exact ⟨i, by omega, rfl⟩
  · rintro ⟨hv, hn⟩ k x hx
    obtain ⟨hk, rfl⟩ := List.getElem?_eq_some_iff.1 hx
    refine ⟨hv _ (List.getElem_mem hk), fun hm => ?_⟩
    obtain ⟨y, hy, e⟩ := List.mem_map.1 hm
    obtain ⟨j, hj, rfl⟩ := List.mem_take_iff_getElem.1 hy
    unfold List.Nodup at hn
    rw [List.pairwise_iff_getElem] at hn
    exact hn j k (by simp; omega) (by simpa using hk) (by omega) (by simpa using e)
end
/-- The item with a key, and whether there is one. -/
@[irreducible] def iwV (xs : List Im) (key : ByteArray) : Im × Bool := if fdV xs = true ∧ 0 ≤ numV xs key then (xs.getD (numV xs key).toNat default, true) else ((⟨#[]⟩, ⟨#[]⟩, ⟨#[]⟩, 0), false)
theorem iw_no1 {xs : List Im} {key : ByteArray} (h : fdV xs = false) : iwV xs key = ((⟨#[]⟩, ⟨#[]⟩, ⟨#[]⟩, 0), false) := by unfold iwV; rw [if_neg (by rw [h]; simp)]
theorem iw_no2 {xs : List Im} {key : ByteArray} (h : numV xs key < 0) : iwV xs key = ((⟨#[]⟩, ⟨#[]⟩, ⟨#[]⟩, 0), false) := by unfold iwV; rw [if_neg (by omega)]
theorem iw_yes {xs : List Im} {key : ByteArray} {k : Nat} {x : Im} (h : fdV xs = true) (hk : numV xs key = k) (hx : xs[k]? = some x) : iwV xs key = (x, true) := by
  unfold iwV
  rw [if_pos ⟨h, by omega⟩, hk, Int.toNat_natCast]
  rw [List.getD_eq_getElem?_getD, hx]; rfl
def ImRes (v : Im × Bool) (e : Ending) : Prop := e = .returned (.tuple #[imA v.1.1 v.1.2.1 v.1.2.2.1 v.1.2.2.2, .bool v.2])
theorem Sl.items {w : World} {A : Option Addr} {n c : Nat} {xs : List Im} (h : Sl w A n c 4 (ims xs)) {k : Nat} (hk : k ≤ n) : Sl w A k c 4 (ims (xs.take k)) := by
  have := h.sub0 hk
  rwa [flat_take imC_len] at this
end Go.Proofs.Ytlfjnaeepblhiaa
