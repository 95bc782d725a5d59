/- The plain law of TellChanges: who knew the keys of the first feed knows those of the second. -/
import Derived.Test.YtlfjnaeepblhiaaTellV
import Derived.Test.YtlfjnaeepblhiaaKnown
namespace Go.Proofs.Ytlfjnaeepblhiaa
open Go.RowKit
set_option linter.unusedVariables false
set_option linter.unusedSimpArgs false
theorem ba_beq (x y : ByteArray) : (x.toList == y.toList) = decide (x = y) := bytes_eq
theorem hasK_iff {zs : List St} {x : ByteArray} : hasK zs x = true ↔ x ∈ zs := by
  unfold hasK
  rw [List.any_eq_true]
  constructor
  · rintro ⟨y, hy, h⟩; rw [ba_beq] at h; rw [← of_decide_eq_true h]; exact hy
  · intro h; exact ⟨x, h, by rw [ba_beq]; simp⟩
theorem hasK_not {zs : List St} {x : ByteArray} : hasK zs x = false ↔ x ∉ zs := by rw [← hasK_iff]; simp
theorem mem_delK {zs : List St} {x y : ByteArray} : y ∈ delK zs x ↔ y ∈ zs ∧ y ≠ x := by
  unfold delK
  rw [List.mem_filter, ba_beq]
  simp
section
variable {a b : ByteArray} {m : Int} {xs ys : List Im} {ks zs : List St}
/-- Told creations of keys that are not known. -/
theorem fold_new (i : Nat) (h : ∀ s ∈ ks, s ∉ zs) (hn : ks.Nodup) : (numT m a b i (ofKind 0 ks)).foldl kStep zs = zs ++ ks := by
  induction ks generalizing i zs with
  | nil => simp [ofKind, numT]
  | cons s ks ih =>
    rw [List.nodup_cons] at hn
    unfold ofKind
    rw [List.map_cons, numT, List.foldl_cons, kStep_new (.inl rfl) (by rw [Bool.eq_false_iff]; intro e; exact h s (List.mem_cons_self ..) (hasK_iff.1 e))]
    have := ih (zs := zs ++ [s]) (i + 1) (fun t ht => by
      rw [List.mem_append, not_or]
      refine ⟨h t (List.mem_cons_of_mem _ ht), fun e => ?_⟩
      rw [List.mem_singleton] at e
      subst e
      exact hn.1 ht) hn.2
    unfold ofKind at this
    rw [this, List.append_assoc]; rfl
/-- Told updates of keys that are known. -/
theorem fold_ch (i : Nat) (h : ∀ s ∈ ks, s ∈ zs) : (numT m a b i (ofKind 1 ks)).foldl kStep zs = zs := by
  induction ks generalizing i with
  | nil => simp [ofKind, numT]
  | cons s ks ih =>
    unfold ofKind
    rw [List.map_cons, numT, List.foldl_cons, kStep_has (.inr rfl) (hasK_iff.2 (h s (List.mem_cons_self ..)))]
    exact ih (i + 1) fun t ht => h t (List.mem_cons_of_mem _ ht)
/-- Told deletions. -/
theorem fold_gone (i : Nat) : (numT m a b i (ofKind 2 ks)).foldl kStep zs = zs.filter fun x => !hasK ks x := by
  induction ks generalizing i zs with
  | nil => simp [ofKind, numT, hasK, List.filter_eq_self.2]
  | cons s ks ih =>
    unfold ofKind
    rw [List.map_cons, numT, List.foldl_cons, kStep_del]
    have := ih (zs := delK zs s) (i + 1)
    unfold ofKind at this
    rw [this]
    unfold delK
    rw [List.filter_filter]
    refine List.filter_congr fun x _ => ?_
    show (!(hasK ks x) && !(x.toList == s.toList)) = !((s.toList == x.toList) || hasK ks x)
    rw [ba_beq, ba_beq, show decide (x = s) = decide (s = x) from decide_eq_decide.2 eq_comm]
    cases hasK ks x <;> cases decide (s = x) <;> rfl
theorem mem_newV (h3 : fdV xs = true) (h4 : fdV ys = true) {x : Im} : x ∈ newV xs ys ↔ x ∈ ys ∧ x.1 ∉ keysOf xs := by
  unfold newV
  rw [if_pos ⟨h3, h4⟩, List.mem_filter]
  unfold isNew
  rw [Bool.not_eq_true', hasI_not]
theorem mem_chV (h3 : fdV xs = true) (h4 : fdV ys = true) {x : Im} (h : x ∈ chV xs ys) : x ∈ ys ∧ x.1 ∈ keysOf xs := by
  unfold chV at h
  rw [if_pos ⟨h3, h4⟩, List.mem_filter] at h
  refine ⟨h.1, ?_⟩
  have h2 := h.2
  unfold isCh at h2
  rw [Bool.and_eq_true, decide_eq_true_eq] at h2
  exact Classical.byContradiction fun hn => by have := (num_neg xs x.1).2 hn; omega
theorem nodup_newV (h3 : fdV xs = true) (h4 : fdV ys = true) : (keysOf (newV xs ys)).Nodup := by
  unfold newV
  rw [if_pos ⟨h3, h4⟩]
  exact ((List.filter_sublist (p := isNew xs)).map _).nodup (fd_iff.1 h4).2.2
theorem told_keys (h3 : fdV xs = true) (h4 : fdV ys = true) {t : Told} (h : t ∈ toldV xs ys) : 0 ≤ t.1 ∧ t.1 ≤ 2 ∧ wordV t.2 = true := by
  have hw : ∀ {us : List Im}, fdV us = true → ∀ x ∈ us, wordV x.1 = true := fun hu x hx => by
    have := (fd_iff.1 hu).2.1 x hx
    unfold imVal at this
    exact (imV_parts this).1
  rw [told_parts, List.mem_append, List.mem_append] at h
  rcases h with (h | h) | h
  · unfold ofKind at h
    obtain ⟨s, hs, rfl⟩ := List.mem_map.1 h
    obtain ⟨x, hx, rfl⟩ := List.mem_map.1 hs
    exact ⟨by simp, by simp, hw h4 _ ((mem_newV h3 h4).1 hx).1⟩
  · unfold ofKind at h
    obtain ⟨s, hs, rfl⟩ := List.mem_map.1 h
    obtain ⟨x, hx, rfl⟩ := List.mem_map.1 hs
    exact ⟨by simp, by simp, hw h4 _ (mem_chV h3 h4 hx).1⟩
  · unfold ofKind at h
    obtain ⟨s, hs, rfl⟩ := List.mem_map.1 h
    unfold goneV at hs
    obtain ⟨x, hx, rfl⟩ := List.mem_map.1 hs
    exact ⟨by simp, by simp, hw h3 _ ((mem_newV h4 h3).1 hx).1⟩
theorem told_len : (toldV xs ys).length ≤ 24 := by
  rw [told_parts]
  have h1 : (keysOf (newV xs ys)).length ≤ 8 := by unfold keysOf; rw [List.length_map]; exact new_le
  have h2 : (keysOf (chV xs ys)).length ≤ 8 := by unfold keysOf; rw [List.length_map]; exact ch_le
  have h3 : (goneV xs ys).length ≤ 8 := gone_le
  unfold ofKind
  rw [List.length_append, List.length_append]
  have e1 : ∀ (k : Int) (l : List ByteArray), (l.map fun s => (k, s)).length = l.length := fun k l => by simp
  rw [e1, e1, e1]
  omega
theorem told_from {t : Told} (h : t ∈ toldV xs ys) : (∃ x ∈ xs, x.1 = t.2) ∨ ∃ y ∈ ys, y.1 = t.2 := by
  have hnew : ∀ {us vs : List Im} {s : ByteArray}, s ∈ keysOf (newV us vs) → ∃ y ∈ vs, y.1 = s := fun hs => by
    obtain ⟨x, hx, rfl⟩ := List.mem_map.1 hs
    unfold newV at hx
    split at hx
    · exact ⟨x, (List.mem_filter.1 hx).1, rfl⟩
    · simp at hx
  have hch : ∀ {us vs : List Im} {s : ByteArray}, s ∈ keysOf (chV us vs) → ∃ y ∈ vs, y.1 = s := fun hs => by
    obtain ⟨x, hx, rfl⟩ := List.mem_map.1 hs
    unfold chV at hx
    split at hx
    · exact ⟨x, (List.mem_filter.1 hx).1, rfl⟩
    · simp at hx
  rw [told_parts, List.mem_append, List.mem_append] at h
  unfold ofKind at h
  rcases h with (h | h) | h
  · obtain ⟨s, hs, rfl⟩ := List.mem_map.1 h; exact .inr (hnew hs)
  · obtain ⟨s, hs, rfl⟩ := List.mem_map.1 h; exact .inr (hch hs)
  · obtain ⟨s, hs, rfl⟩ := List.mem_map.1 h
    unfold goneV at hs
    exact .inl (hnew hs)
theorem tell_ok (ha : a.size ≤ 9223372036854775807) (hb : b.size ≤ 9223372036854775807) (hx : imOk xs) (hy : imOk ys) : acOk (tellV a b m xs ys) := by
  intro z hz
  unfold tellV at hz
  split at hz
  · obtain ⟨j, hj, rfl⟩ := List.mem_iff_getElem.1 hz
    have hj' : j < (toldV xs ys).length := by rwa [numT_len] at hj
    have ht := List.getElem?_eq_getElem hj'
    have hm := List.getElem_mem hj'
    have hz2 := List.getElem?_eq_getElem hj
    rw [numT_at ht] at hz2
    injection hz2 with hz2
    rw [← hz2]
    refine ⟨ha, hb, ?_⟩
    rcases told_from hm with ⟨x, hxm, e⟩ | ⟨x, hxm, e⟩
    · have := (hx x hxm).1; rw [e] at this; exact this
    · have := (hy x hxm).1; rw [e] at this; exact this
  · simp at hz
/-- Each told activity is valid, numbered and by who tells. -/
theorem tell_at (h1 : hvalV a b = true) (h2 : inB m 0 1000000 = true) (h3 : fdV xs = true) (h4 : fdV ys = true) {j : Nat} {x : Ac} (h : (tellV a b m xs ys)[j]? = some x) : acVal x = true ∧ x.2.1 = m + j ∧ x.2.2.1 = a ∧ x.2.2.2.1 = b := by
  rw [tell_yes h1 h2 h3 h4] at h
  have hj : j < (toldV xs ys).length := by
    have := (List.getElem?_eq_some_iff.1 h).1
    rwa [numT_len] at this
  have hl := told_len (xs := xs) (ys := ys)
  have ht := List.getElem?_eq_getElem hj
  have hk := told_keys h3 h4 (List.getElem_mem hj)
  generalize (toldV xs ys)[j] = t at ht hk
  rw [numT_at ht, Nat.zero_add] at h
  injection h with h
  subst h
  refine ⟨?_, rfl, rfl, rfl⟩
  have hm : 0 ≤ m ∧ m ≤ 1000000 := by unfold inB at h2; simpa using h2
  show avalV t.1 (m + j) a b t.2 = true
  rw [aval_yes (by unfold inB; simp; omega) (by unfold inB; simp; omega) h1]
  exact hk.2.2
theorem tell_heard (h1 : hvalV a b = true) (h2 : inB m 0 1000000 = true) (h3 : fdV xs = true) (h4 : fdV ys = true) : heardV (tellV a b m xs ys) = true := by
  refine heard_yes ?_ ?_
  · rw [tell_yes h1 h2 h3 h4, numT_len]; have := told_len (xs := xs) (ys := ys); omega
  · unfold hvTo
    rw [List.take_length, List.all_eq_true]
    intro x hx
    obtain ⟨j, hj, rfl⟩ := List.mem_iff_getElem.1 hx
    exact (tell_at h1 h2 h3 h4 (List.getElem?_eq_getElem hj)).1
theorem tell_fold (h1 : hvalV a b = true) (h2 : inB m 0 1000000 = true) (h3 : fdV xs = true) (h4 : fdV ys = true) : knownV (keysOf xs) (tellV a b m xs ys) = (keysOf xs ++ keysOf (newV xs ys)).filter fun x => !hasK (goneV xs ys) x := by
  rw [known_yes (tell_heard h1 h2 h3 h4)]
  unfold knownTo
  rw [List.take_length, tell_yes h1 h2 h3 h4, told_parts, numT_app, numT_app, List.foldl_append, List.foldl_append]
  rw [fold_new _ (fun s hs => ?_) (nodup_newV h3 h4), fold_ch _ (fun s hs => ?_), fold_gone]
  · obtain ⟨x, hx, rfl⟩ := List.mem_map.1 hs
    exact List.mem_append_left _ (mem_chV h3 h4 hx).2
  · obtain ⟨x, hx, rfl⟩ := List.mem_map.1 hs
    exact ((mem_newV h3 h4).1 hx).2
theorem mem_gone (h3 : fdV xs = true) (h4 : fdV ys = true) {s : ByteArray} : s ∈ goneV xs ys ↔ s ∈ keysOf xs ∧ s ∉ keysOf ys := by
  unfold goneV
  constructor
  · intro h
    obtain ⟨x, hx, rfl⟩ := List.mem_map.1 h
    exact ⟨List.mem_map_of_mem ((mem_newV h4 h3).1 hx).1, ((mem_newV h4 h3).1 hx).2⟩
  · rintro ⟨h, hn⟩
    obtain ⟨x, hx, rfl⟩ := List.mem_map.1 h
    exact List.mem_map_of_mem ((mem_newV h4 h3).2 ⟨hx, hn⟩)
theorem tell_mem (h1 : hvalV a b = true) (h2 : inB m 0 1000000 = true) (h3 : fdV xs = true) (h4 : fdV ys = true) {s : ByteArray} : s ∈ knownV (keysOf xs) (tellV a b m xs ys) ↔ s ∈ keysOf ys := by
  rw [tell_fold h1 h2 h3 h4, List.mem_filter, List.mem_append, Bool.not_eq_true', hasK_not, mem_gone h3 h4]
  constructor
  · rintro ⟨h | h, hn⟩
    · exact Classical.byContradiction fun e => hn ⟨h, e⟩
    · obtain ⟨x, hx, rfl⟩ := List.mem_map.1 h
      exact List.mem_map_of_mem ((mem_newV h3 h4).1 hx).1
  · intro h
    refine ⟨?_, fun e => e.2 h⟩
    by_cases hk : s ∈ keysOf xs
    · exact .inl hk
    · obtain ⟨x, hx, rfl⟩ := List.mem_map.1 h
      exact .inr (List.mem_map_of_mem ((mem_newV h3 h4).2 ⟨hx, hk⟩))
theorem tell_len (h1 : hvalV a b = true) (h2 : inB m 0 1000000 = true) (h3 : fdV xs = true) (h4 : fdV ys = true) : (knownV (keysOf xs) (tellV a b m xs ys)).length = ys.length := by
  have hn : (knownV (keysOf xs) (tellV a b m xs ys)).Nodup := by
    rw [tell_fold h1 h2 h3 h4]
    refine List.filter_sublist.nodup ?_
    rw [List.nodup_append]
    refine ⟨(fd_iff.1 h3).2.2, nodup_newV h3 h4, ?_⟩
    intro s hs t ht e
    subst e
    obtain ⟨x, hx, rfl⟩ := List.mem_map.1 ht
    exact ((mem_newV h3 h4).1 hx).2 hs
  have hy : (keysOf ys).Nodup := (fd_iff.1 h4).2.2
  have := (List.perm_ext_iff_of_nodup hn hy).2 fun s => tell_mem h1 h2 h3 h4
  rw [this.length_eq, List.length_map]
/-- Every known key is found in the second feed. -/
theorem tell_iw (h1 : hvalV a b = true) (h2 : inB m 0 1000000 = true) (h3 : fdV xs = true) (h4 : fdV ys = true) {j : Nat} {s : ByteArray} (h : (knownV (keysOf xs) (tellV a b m xs ys))[j]? = some s) : (iwV ys s).2 = true := by
  have hm := (tell_mem h1 h2 h3 h4).1 (List.mem_of_getElem? h)
  obtain ⟨i, hi⟩ := Int.eq_ofNat_of_zero_le (show 0 ≤ numV ys s from Int.not_lt.1 fun e => (num_neg ys s).1 e hm)
  obtain ⟨x, hx, _⟩ := num_at hi
  rw [iw_yes h4 hi hx]
end
end Go.Proofs.Ytlfjnaeepblhiaa
