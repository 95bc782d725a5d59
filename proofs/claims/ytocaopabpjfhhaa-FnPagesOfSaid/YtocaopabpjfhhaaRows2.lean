/- Slices of slices of integers: how they lie, last, grow and turn. -/
import Derived.Test.YtocaopabpjfhhaaPage
import Derived.Test.YtocaopabpjfhhaaMore
namespace Go.Proofs.Ytocaopabpjfhhaa
open Go.RowKit
set_option linter.unusedVariables false

theorem eltInts : Elt Try.prog 43 28 1 24 := elt_mk (z := .slice none 0 0) (by kernel_rfl) rfl Try.underlying43 (by decide)
/-- A list of numbers, and where it lies. -/
structure Pg where
  A : Option Addr
  n : Nat
  c : Nat
  xs : List Int
abbrev Pg.v (p : Pg) : Value := .slice p.A p.n p.c
abbrev pgs (ps : List Pg) : List Value := ps.map Pg.v
abbrev pxs (ps : List Pg) : List (List Int) := ps.map Pg.xs
theorem pgs_one (ps : List Pg) : ∀ u ∈ pgs ps, u.oneCell' = true := by
  intro u hu
  obtain ⟨p, _, rfl⟩ := List.mem_map.1 hu
  rfl
/-- The list of lists, and all that it shows, are the call's own, and lie apart. -/
structure Pages (w : World) (base : Nat) (V : Value) (ps : List Pg) : Prop where
  outer : w.ownsRow base 28 1 V ps.length (pgs ps)
  inner : ∀ (i : Nat) (p : Pg), ps[i]? = some p → w.ownsRow base 3 1 p.v p.n (ints p.xs)
  apart : ∀ (i j : Nat) (p q : Pg), i ≠ j → ps[i]? = some p → ps[j]? = some q → ∀ k, p.v.ownBlock = some k → q.v.ownBlock ≠ some k
  off : ∀ (i : Nat) (p : Pg), ps[i]? = some p → ∀ k, p.v.ownBlock = some k → V.ownBlock ≠ some k
  small : ∀ (i : Nat) (p : Pg), ps[i]? = some p → p.n ≤ 41
/-- The block k is none of theirs. -/
def Off (V : Value) (ps : List Pg) (k : Nat) : Prop := V.ownBlock ≠ some k ∧ ∀ (i : Nat) (p : Pg), ps[i]? = some p → p.v.ownBlock ≠ some k
section
variable {w w' : World} {base : Nat} {V V' : Value} {ps qs : List Pg}
theorem apart_of {v u : Value} (h : ∀ k, u.ownBlock = some k → v.ownBlock ≠ some k) : v.ownBlock = none ∨ v.ownBlock ≠ u.ownBlock := by
  cases hv : v.ownBlock with
  | none => exact .inl rfl
  | some k => exact .inr fun e => h k e.symm hv
theorem Pages.off_ge (h : Pages w base V ps) {k : Nat} (hk : w.heap.size ≤ k) : Off V ps k :=
  ⟨fun e => by have := (h.outer.lt k e).2; omega, fun i p hp e => by have := ((h.inner i p hp).lt k e).2; omega⟩
theorem Pages.off_lt (h : Pages w base V ps) {k : Nat} (hk : k < base) : Off V ps k :=
  ⟨fun e => by have := (h.outer.lt k e).1; omega, fun i p hp e => by have := ((h.inner i p hp).lt k e).1; omega⟩
theorem Pages.kept (h : Pages w base V ps) {row : Option Nat} (g : w.grownBy w' row) (ho : ∀ k, row = some k → Off V ps k) : Pages w' base V ps := by
  have keep : ∀ {e size n : Nat} {v : Value} {vs : List Value}, w.ownsRow base e size v n vs → (∀ k, row = some k → v.ownBlock ≠ some k) → w'.ownsRow base e size v n vs := fun o hr =>
    o.kept g (by
      rename_i v _
      cases hv : v.ownBlock with
      | none => exact .inl rfl
      | some k => exact .inr fun e => hr k e.symm hv)
  exact ⟨keep h.outer fun k e => (ho k e).1, fun i p hp => keep (h.inner i p hp) fun k e => (ho k e).2 i p hp, h.apart, h.off, h.small⟩
theorem Pages.below (h : Pages w base V ps) (hb : Below w.heap.size w w') : Pages w' base V ps :=
  ⟨own_below h.outer hb, fun i p hp => own_below (h.inner i p hp) hb, h.apart, h.off, h.small⟩
theorem Pages.drewN (h : Pages w base V ps) (k : Nat) : Pages (w.drewN k) base V ps := ⟨h.outer, h.inner, h.apart, h.off, h.small⟩
theorem Pages.ext (h : Pages w base V ps) (hx : Ext.of w w') : Pages w' base V ps := h.below hx.below
theorem Pages.lower (h : Pages w base V ps) {base' : Nat} (hb : base' ≤ base) : Pages w base' V ps :=
  ⟨own_lower h.outer hb, fun i p hp => own_lower (h.inner i p hp) hb, h.apart, h.off, h.small⟩
theorem Pages.form (h : Pages w base V ps) : ∃ A c, V = .slice A ps.length c ∧ ps.length ≤ c ∧ c ≤ maxLen := by
  obtain ⟨A, c, rfl, h1, h2, _⟩ := own_form h.outer
  exact ⟨A, c, rfl, h1, h2⟩
theorem Pages.len {A : Option Addr} {n c : Nat} (h : Pages w base (.slice A n c) ps) : ps.length = n := by
  obtain ⟨A', c', e, _, _⟩ := h.form
  injection e with a b d; exact b.symm
theorem Pages.caps {A : Option Addr} {n c : Nat} (h : Pages w base (.slice A n c) ps) : n ≤ c ∧ c ≤ maxLen := ⟨by have := (own_sl (h.len ▸ h.outer)).cap; exact this, (own_sl (h.len ▸ h.outer)).max⟩
/-- The i-th list. -/
theorem Pages.at {A : Option Addr} {n c : Nat} (h : Pages w base (.slice A n c) ps) {i : Nat} (hi : i < n) : ∃ ad p, A = some ad ∧ ps[i]? = some p ∧ w.cell? (ad.add i) = some (.slice p.A p.n p.c) := by
  have hl := h.len
  have S := own_sl (hl ▸ h.outer)
  obtain ⟨ad, hA, hs⟩ := S.see.ad (k := i) (by simp; omega)
  have hp : ps[i]? = some (ps[i]'(by omega)) := List.getElem?_eq_getElem (by omega)
  refine ⟨ad, _, hA, hp, hs i _ ?_⟩
  simp [pgs, hp]
theorem Pages.sl (h : Pages w base V ps) {i : Nat} {p : Pg} (hp : ps[i]? = some p) : Sl w p.A p.n p.c 1 (ints p.xs) := own_sl (h.inner i p hp)
/-- One list more behind the others. -/
theorem Pages.push (h : Pages w base V ps) {p : Pg} (hp : w.ownsRow base 3 1 p.v p.n (ints p.xs)) (hs : p.n ≤ 41) (hoff : ∀ k, p.v.ownBlock = some k → Off V ps k)
    (o : w'.ownsRow base 28 1 V' (ps.length + 1) (pgs ps ++ [p.v])) (g : w.grownBy w' V.ownBlock) (hV : V'.ownBlock = V.ownBlock ∨ V'.ownBlock = some w.heap.size) : Pages w' base V' (ps ++ [p]) := by
  have keep : ∀ {q : Pg}, w.ownsRow base 3 1 q.v q.n (ints q.xs) → (∀ k, q.v.ownBlock = some k → V.ownBlock ≠ some k) → w'.ownsRow base 3 1 q.v q.n (ints q.xs) := fun {q} o hr =>
    o.kept g (by
      cases hv : q.v.ownBlock with
      | none => exact .inl rfl
      | some k => exact .inr fun e => hr k hv e.symm)
  have hpV : ∀ k, p.v.ownBlock = some k → V.ownBlock ≠ some k := fun k hk => (hoff k hk).1
  have split : ∀ (i : Nat) (q : Pg), (ps ++ [p])[i]? = some q → ps[i]? = some q ∨ (i = ps.length ∧ q = p) := fun i q hq => by
    rcases Nat.lt_or_ge i ps.length with hi | hi
    · rw [List.getElem?_append_left hi] at hq; exact .inl hq
    · rw [List.getElem?_append_right hi] at hq
      have : i - ps.length = 0 := by
        rcases Nat.eq_zero_or_pos (i - ps.length) with h0 | h0
        · exact h0
        · rw [List.getElem?_eq_none (by simp; omega)] at hq; cases hq
      rw [this] at hq
      simp at hq
      exact .inr ⟨by omega, hq.symm⟩
  have own : ∀ (i : Nat) (q : Pg), (ps ++ [p])[i]? = some q → w.ownsRow base 3 1 q.v q.n (ints q.xs) ∧ (∀ k, q.v.ownBlock = some k → V.ownBlock ≠ some k) ∧ q.n ≤ 41 := fun i q hq => by
    rcases split i q hq with hq | ⟨_, rfl⟩
    · exact ⟨h.inner i q hq, h.off i q hq, h.small i q hq⟩
    · exact ⟨hp, hpV, hs⟩
  refine ⟨by simpa [pgs] using o, fun i q hq => keep (own i q hq).1 (own i q hq).2.1, fun i j q r hij hq hr k hk => ?_, fun i q hq k hk => ?_, fun i q hq => (own i q hq).2.2⟩
  · rcases split i q hq with hq1 | ⟨ei, rfl⟩ <;> rcases split j r hr with hr1 | ⟨ej, rfl⟩
    · exact h.apart i j q r hij hq1 hr1 k hk
    · exact fun e => (hoff k e).2 i q hq1 hk
    · exact (hoff k hk).2 j r hr1
    · omega
  · rcases hV with hV | hV
    · rw [hV]; exact (own i q hq).2.1 k hk
    · rw [hV]
      have := ((own i q hq).1.lt k hk).2
      intro e
      injection e with e
      omega
theorem set_v {ps : List Pg} {j : Nat} {p : Pg} (hj : ps[j]? = some p) (ys : List Int) : pgs (ps.set j ⟨p.A, p.n, p.c, ys⟩) = pgs ps := by
  have hjl := (List.getElem?_eq_some_iff.1 hj).1
  refine List.ext_getElem? fun i => ?_
  simp only [pgs, List.getElem?_map, List.getElem?_set]
  by_cases e : j = i
  · subst e
    simp only [if_true, hj, if_pos hjl]
    simp
  · simp [e]
/-- One of the lists has been written over. -/
theorem Pages.turn (h : Pages w base V ps) {j : Nat} {p : Pg} (hj : ps[j]? = some p) {ys : List Int} (o : w'.ownsRow base 3 1 p.v p.n (ints ys)) (g : w.grownBy w' p.v.ownBlock) : Pages w' base V (ps.set j ⟨p.A, p.n, p.c, ys⟩) := by
  have hjl := (List.getElem?_eq_some_iff.1 hj).1
  have keep : ∀ {e size n : Nat} {v : Value} {vs : List Value}, w.ownsRow base e size v n vs → (∀ k, p.v.ownBlock = some k → v.ownBlock ≠ some k) → w'.ownsRow base e size v n vs := fun o hr =>
    o.kept g (by
      rename_i v _
      cases hv : v.ownBlock with
      | none => exact .inl rfl
      | some k => exact .inr fun e => hr k e.symm hv)
  have split : ∀ (i : Nat) (q : Pg), (ps.set j ⟨p.A, p.n, p.c, ys⟩)[i]? = some q → (i ≠ j ∧ ps[i]? = some q) ∨ (i = j ∧ q = ⟨p.A, p.n, p.c, ys⟩) := fun i q hq => by
    by_cases e : j = i
    · subst e
      rw [List.getElem?_set_self hjl] at hq
      injection hq with hq
      exact .inr ⟨rfl, hq.symm⟩
    · rw [List.getElem?_set_ne e] at hq
      exact .inl ⟨fun h => e h.symm, hq⟩
  have old : ∀ (i : Nat) (q : Pg), (ps.set j ⟨p.A, p.n, p.c, ys⟩)[i]? = some q → ∃ q', ps[i]? = some q' ∧ q.v = q'.v ∧ q.n = q'.n := fun i q hq => by
    rcases split i q hq with ⟨_, hq⟩ | ⟨rfl, rfl⟩
    · exact ⟨q, hq, rfl, rfl⟩
    · exact ⟨p, hj, rfl, rfl⟩
  have hv := set_v hj ys
  refine ⟨by rw [hv, List.length_set]; exact keep h.outer fun k hk => h.off j p hj k hk, fun i q hq => ?_, fun i i' q r hij hq hr k hk => ?_, fun i q hq k hk => ?_, fun i q hq => ?_⟩
  · rcases split i q hq with ⟨hne, hq⟩ | ⟨rfl, rfl⟩
    · exact keep (h.inner i q hq) fun k hk => h.apart j i p q (fun e => hne e.symm) hj hq k hk
    · exact o
  · obtain ⟨q', h1, h2, _⟩ := old i q hq
    obtain ⟨r', h3, h4, _⟩ := old i' r hr
    rw [h2] at hk; rw [h4]
    exact h.apart i i' q' r' hij h1 h3 k hk
  · obtain ⟨q', h1, h2, _⟩ := old i q hq
    rw [h2] at hk
    exact h.off i q' h1 k hk
  · obtain ⟨q', h1, _, h3⟩ := old i q hq
    rw [h3]; exact h.small i q' h1
end
/-- How many numbers lie ahead of the i-th list. -/
def offs (ps : List Pg) (i : Nat) : Nat := ((ps.take i).map Pg.n).sum
theorem offs_zero (ps : List Pg) : offs ps 0 = 0 := by simp [offs]
theorem offs_succ {ps : List Pg} {i : Nat} {p : Pg} (h : ps[i]? = some p) : offs ps (i + 1) = offs ps i + p.n := by
  unfold offs
  rw [List.take_add_one, h]
  simp
theorem offs_le {ps : List Pg} (h : ∀ (i : Nat) (p : Pg), ps[i]? = some p → p.n ≤ 41) : ∀ i, offs ps i ≤ i * 41
  | 0 => by simp [offs]
  | i + 1 => by
      have := offs_le h i
      cases hp : ps[i]? with
      | none =>
        have e : offs ps (i + 1) = offs ps i := by unfold offs; rw [List.take_add_one, hp]; simp
        omega
      | some p => rw [offs_succ hp]; have := h i p hp; omega
theorem offs_same {ps qs : List Pg} (h : ps.map Pg.n = qs.map Pg.n) (i : Nat) : offs ps i = offs qs i := by
  unfold offs
  rw [List.map_take, List.map_take, h]
theorem set_n {ps : List Pg} {j : Nat} {p : Pg} (hj : ps[j]? = some p) (ys : List Int) : (ps.set j ⟨p.A, p.n, p.c, ys⟩).map Pg.n = ps.map Pg.n := by
  refine List.ext_getElem? fun i => ?_
  simp only [List.getElem?_map, List.getElem?_set]
  by_cases e : j = i
  · subst e
    have hjl := (List.getElem?_eq_some_iff.1 hj).1
    simp only [if_true, hj, if_pos hjl]
    simp
  · simp [e]
/-- The marks of the lists from k on. -/
def Marked (k : Nat) (ps : List Pg) (m : Nat) : Prop := ∀ (i : Nat) (p : Pg), i < m → ps[i]? = some p → p.xs = markN (k + offs ps i) p.n
theorem Marked.next {k : Nat} {ps : List Pg} {j : Nat} {p : Pg} (h : Marked k ps j) (hj : ps[j]? = some p) : Marked k (ps.set j ⟨p.A, p.n, p.c, markN (k + offs ps j) p.n⟩) (j + 1) := by
  have hjl := (List.getElem?_eq_some_iff.1 hj).1
  intro i q hi hq
  rw [offs_same (set_n hj _)]
  by_cases e : j = i
  · subst e
    rw [List.getElem?_set_self hjl] at hq
    injection hq with hq
    subst hq
    rfl
  · rw [List.getElem?_set_ne e] at hq
    exact h i q (by omega) hq
/-- What turned: blocks of the lists, and new ones. -/
structure Turned (w w' : World) (vs : List Value) : Prop where
  os : w'.os = w.os
  tape : w'.tape = w.tape
  output : w'.output = w.output
  size : w.heap.size ≤ w'.heap.size
  block : ∀ k, k < w.heap.size → (∀ v ∈ vs, v.ownBlock ≠ some k) → w'.heap[k]? = w.heap[k]?
theorem Turned.refl (w : World) (vs : List Value) : Turned w w vs := ⟨rfl, rfl, rfl, Nat.le_refl _, fun _ _ _ => rfl⟩
theorem Turned.next {w w' w'' : World} {vs : List Value} (h : Turned w w' vs) {v : Value} (hj : v ∈ vs) (g : w'.grownBy w'' v.ownBlock) : Turned w w'' vs :=
  ⟨g.os.trans h.os, g.tape.trans h.tape, g.output.trans h.output, Nat.le_trans h.size g.size, fun k hk hn => (g.block k (Nat.lt_of_lt_of_le hk h.size) (fun e => hn v hj e.symm)).trans (h.block k hk hn)⟩
theorem mem_pgs {ps : List Pg} {u : Value} (h : u ∈ pgs ps) : ∃ (i : Nat) (p : Pg), ps[i]? = some p ∧ u = p.v := by
  obtain ⟨p, hp, rfl⟩ := List.mem_map.1 h
  obtain ⟨i, hi, rfl⟩ := List.getElem_of_mem hp
  exact ⟨i, _, List.getElem?_eq_getElem hi, rfl⟩
theorem Turned.below {w0 w w' : World} {base B : Nat} {V : Value} {ps : List Pg} (h : Turned w w' (pgs ps)) (P : Pages w base V ps) (hb : Below B w0 w) (hB : B ≤ base) (hs : B ≤ w.heap.size) : Below B w0 w' :=
  ⟨h.os.trans hb.os, h.tape.trans hb.tape, h.output.trans hb.output, Nat.le_trans hb.size h.size, fun k hk => (h.block k (Nat.lt_of_lt_of_le hk hs) (fun u hu => by obtain ⟨i, p, hp, rfl⟩ := mem_pgs hu; exact (P.off_lt (Nat.lt_of_lt_of_le hk hB)).2 i p hp)).trans (hb.block k hk)⟩
theorem own_turned {w w' : World} {us : List Value} (h : Turned w w' us) {base size n : Nat} {e : TypeId} {v : Value} {vs : List Value} (o : w.ownsRow base e size v n vs) (hne : ∀ k, v.ownBlock = some k → ∀ u ∈ us, u.ownBlock ≠ some k) : w'.ownsRow base e size v n vs := by
  refine ⟨o.1, ?_⟩
  rcases o.2 with h2 | ⟨g, cap, cur, rfl, hg, hb, r⟩
  · exact .inl h2
  · have hlt := (Array.getElem?_eq_some_iff.1 hb).1
    exact .inr ⟨g, cap, cur, rfl, hg, (h.block g hlt (hne g rfl)).trans hb, r⟩
theorem Pages.turned {w w' : World} {base : Nat} {V : Value} {ps : List Pg} {us : List Value} (h : Pages w base V ps) (t : Turned w w' us) (ho : ∀ u ∈ us, ∀ k, u.ownBlock = some k → Off V ps k) : Pages w' base V ps :=
  ⟨own_turned t h.outer fun k hk u hu e => (ho u hu k e).1 hk, fun j p hp => own_turned t (h.inner j p hp) fun k hk u hu e => (ho u hu k e).2 j p hp hk, h.apart, h.off, h.small⟩
/-- Blocks of what was made before lie apart from those of what came behind. -/
theorem Pages.later {w w1 : World} {base B : Nat} {V V1 : Value} {ps qs : List Pg} (h : Pages w base V ps) (h1 : Pages w1 B V1 qs) (hB : w.heap.size ≤ B) : ∀ u ∈ pgs qs, ∀ k, u.ownBlock = some k → Off V ps k := by
  intro u hu k hk
  obtain ⟨i, q, hq, rfl⟩ := mem_pgs hu
  exact h.off_ge (by have := ((h1.inner i q hq).lt k hk).1; omega)

/-- All pages from the entry f on. -/
def pgF (xs : List Int) (m : Int) : Nat → Int → List (List Int)
  | 0, _ => []
  | k + 1, f => if pageOk xs.length f m then pageL xs f m :: pgF xs m k (pageN xs.length f m) else []
def pagesL (xs : List Int) (m : Int) : List (List Int) := pgF xs m 41 0
theorem pgF_no {xs : List Int} {m f : Int} (h : ¬ pageOk xs.length f m) : ∀ k, pgF xs m k f = []
  | 0 => rfl
  | k + 1 => by unfold pgF; rw [if_neg h]
theorem pgF_yes {xs : List Int} {m f : Int} (h : pageOk xs.length f m) (k : Nat) : pgF xs m (k + 1) f = pageL xs f m :: pgF xs m k (pageN xs.length f m) := by
  conv => lhs; unfold pgF
  rw [if_pos h]
theorem pagesL_no {xs : List Int} {m : Int} (h : ¬ pageOk xs.length 0 m) : pagesL xs m = [] := pgF_no h _
theorem pageL_pos {xs : List Int} {f m : Int} (h : pageOk xs.length f m) : 0 < (pageL xs f m).length := by
  rw [pageL_yes h]
  obtain ⟨_, h1, h2, h3⟩ := h
  simp
  omega
theorem pageL_small {xs : List Int} {f m : Int} : (pageL xs f m).length ≤ 40 := by
  by_cases h : pageOk xs.length f m
  · rw [pageL_yes h]
    obtain ⟨h0, _⟩ := h
    simp; omega
  · rw [pageL_no h]; simp
theorem pageN_small {n : Nat} {f m : Int} : -1 ≤ pageN n f m ∧ pageN n f m ≤ 40 := by
  by_cases h : pageOk n f m
  · rw [pageN_yes h]
    obtain ⟨h0, h1, h2, h3⟩ := h
    split <;> omega
  · rw [pageN_no h]; omega
end Go.Proofs.Ytocaopabpjfhhaa
