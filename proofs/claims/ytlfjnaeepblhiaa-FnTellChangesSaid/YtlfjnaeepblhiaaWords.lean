/- Words for memory: what a slice value shows, a row of the call's own, and how both last from one world to the next. -/
import Derived.Test.YtlfjnaeepblhiaaBase
import Derived.Maps.AppendAt
import Derived.Laws.OwnMore
import Derived.Laws.AppendOwnNone
import Derived.Deep.Draws
import Derived.Deep.QuietTactic
import Derived.BigQuiet
import Derived.Deep.RegionWith
import Derived.Deep.LoopGhost
import Derived.WalkSpells
import Derived.WalkLawsBesides
namespace Go.Proofs.Ytlfjnaeepblhiaa
open Go.RowKit

theorem hid {p : Prop} (h : p) : Hid p := h
theorem addr_block (a : Addr) (n : Nat) : (a.add n).block = a.block := by unfold Addr.add; split <;> rfl
theorem addr_add (a : Addr) (i j : Nat) : (a.add i).add j = a.add (i + j) := by
  unfold Addr.add
  by_cases hi : i = 0 <;> by_cases hj : j = 0 <;> simp [hi, hj, Nat.add_assoc]
theorem addr_zero (a : Addr) : a.add 0 = a := by simp [Addr.add]
theorem addr_own (g j : Nat) : (⟨g, 0, none⟩ : Addr).add j = ⟨g, j, none⟩ := by unfold Addr.add; split <;> simp_all

/-- The address A shows the cells vs. -/
def See (w : World) (A : Option Addr) (vs : List Value) : Prop :=
  vs = [] ∨ ∃ ad, A = some ad ∧ ∀ j u, vs[j]? = some u → w.cell? (ad.add j) = some u

section
variable {w w' : World} {A : Option Addr} {vs : List Value}
theorem See.nil (w : World) (A : Option Addr) : See w A [] := .inl rfl
theorem See.ad (h : See w A vs) {k : Nat} (hk : k < vs.length) : ∃ ad, A = some ad ∧ ∀ j u, vs[j]? = some u → w.cell? (ad.add j) = some u := by
  rcases h with h | h
  · subst h; simp at hk
  · exact h
theorem See.keep (h : See w A vs) (hk : ∀ (ad p : Addr) (u : Value), A = some ad → p.block = ad.block → w.cell? p = some u → w'.cell? p = some u) : See w' A vs := by
  rcases h with h | ⟨ad, hA, h⟩
  · exact .inl h
  · exact .inr ⟨ad, hA, fun j u hu => hk ad _ u hA (addr_block ad j) (h j u hu)⟩
theorem See.lt (h : See w A vs) (hv : vs ≠ []) : ∃ ad, A = some ad ∧ ad.block < w.heap.size := by
  rcases h with h | ⟨ad, hA, h⟩
  · exact absurd h hv
  · match vs, hv with
    | u :: _, _ => exact ⟨ad, hA, by have := World.block_lt_of_cell? w _ (h 0 u rfl); rwa [addr_block] at this⟩
theorem See.below (h : See w A vs) (hb : Below w.heap.size w w') : See w' A vs :=
  h.keep fun _ p _ _ _ hc => (hb.cell (p := p) (World.block_lt_of_cell? w p hc)).trans hc
theorem See.grown (h : See w A vs) {row : Option Nat} (hg : w.grownBy w' row) (hne : vs ≠ [] → ∀ ad, A = some ad → some ad.block ≠ row) : See w' A vs := by
  by_cases hv : vs = []
  · exact .inl hv
  · exact h.keep fun ad _ _ hA hp hc => hg.cell hc (by rw [hp]; exact hne hv ad hA)
theorem See.drew (h : See w A vs) : See w.drew A vs := h
theorem See.drewN (h : See w A vs) (k : Nat) : See (w.drewN k) A vs := h
theorem See.alloc (h : See w A vs) (o : Obj) : See (w.alloc o) A vs :=
  h.keep fun _ p _ _ _ hc => (World.cell?_alloc_lt w o p (World.block_lt_of_cell? w p hc)).trans hc
theorem See.setCell (h : See w A vs) {p : Addr} (hne : vs ≠ [] → ∀ ad, A = some ad → ad.block ≠ p.block) (u : Value) : See (w.setCell p u) A vs := by
  by_cases hv : vs = []
  · exact .inl hv
  · exact h.keep fun ad q _ hA hq hc => (World.cell?_setCell_other w p q u (fun e => hne hv ad hA (by rw [← hq, e]))).trans hc
/-- The cells from the k-th on. -/
theorem See.cut (h : See w A vs) (k : Nat) {c n : Nat} (hc : vs.length ≤ n) (hn : c = n → vs.length ≤ k) : See w (if c = n then A else A.map (·.add k)) (vs.drop k) := by
  by_cases e : c = n
  · exact .inl (List.drop_eq_nil_of_le (hn e))
  · rw [if_neg e]
    rcases h with h | ⟨ad, rfl, h⟩
    · subst h; exact .inl (by simp)
    · exact .inr ⟨ad.add k, rfl, fun j u hu => by rw [addr_add]; exact h _ u (by rw [← hu, List.getElem?_drop])⟩
theorem See.drop (h : See w A vs) (k : Nat) : See w (A.map (·.add k)) (vs.drop k) := by
  rcases h with h | ⟨ad, rfl, h⟩
  · subst h; exact .inl (by simp)
  · exact .inr ⟨ad.add k, rfl, fun j u hu => by rw [addr_add]; exact h _ u (by rw [← hu, List.getElem?_drop])⟩
theorem See.take (h : See w A vs) (k : Nat) : See w A (vs.take k) := by
  rcases h with h | ⟨ad, hA, h⟩
  · subst h; exact .inl (by simp)
  · refine .inr ⟨ad, hA, fun j u hu => h j u ?_⟩
    rw [List.getElem?_take] at hu
    split at hu
    · exact hu
    · cases hu
theorem See.of_own {base : Nat} {e : TypeId} {size n c : Nat} (h : w.ownsRow base e size (.slice A n c) n vs) : See w A vs := by
  rcases h.2 with ⟨hv, hn⟩ | ⟨g, cap, cur, hv, _⟩
  · subst hn; exact .inl (List.eq_nil_of_length_eq_zero (by simpa using h.1))
  · have hA : A = some ⟨g, 0, none⟩ := by injection hv
    subst hA
    exact .inr ⟨_, rfl, h.cells (g := g) rfl⟩
end

/-- A slice value shows the n elements whose cells are vs; its numbers are in order. -/
structure Sl (w : World) (A : Option Addr) (n c size : Nat) (vs : List Value) : Prop where
  see : See w A vs
  len : vs.length = n * size
  cap : n ≤ c
  max : c ≤ maxLen
section
variable {w w' : World} {A : Option Addr} {n c size : Nat} {vs : List Value}
theorem Sl.below (h : Sl w A n c size vs) (hb : Below w.heap.size w w') : Sl w' A n c size vs := ⟨h.see.below hb, h.len, h.cap, h.max⟩
theorem Sl.drew (h : Sl w A n c size vs) : Sl w.drew A n c size vs := ⟨h.see, h.len, h.cap, h.max⟩
theorem Sl.drewN (h : Sl w A n c size vs) (k : Nat) : Sl (w.drewN k) A n c size vs := ⟨h.see, h.len, h.cap, h.max⟩
theorem Sl.alloc (h : Sl w A n c size vs) (o : Obj) : Sl (w.alloc o) A n c size vs := ⟨h.see.alloc o, h.len, h.cap, h.max⟩
theorem Sl.grown (h : Sl w A n c size vs) {row : Option Nat} (hg : w.grownBy w' row) (hne : vs ≠ [] → ∀ ad, A = some ad → some ad.block ≠ row) : Sl w' A n c size vs :=
  ⟨h.see.grown hg hne, h.len, h.cap, h.max⟩
theorem Sl.none_ (h : Sl w none n c size vs) (hs : 0 < size) : n = 0 := by
  rcases h.see with h0 | ⟨ad, h0, _⟩
  · have := h.len
    rw [h0] at this
    rcases Nat.mul_eq_zero.1 this.symm with h1 | h1
    · exact h1
    · omega
  · cases h0
theorem Sl.of_none (h : Sl w A n c size vs) (hs : 0 < size) : A = none → n = 0 := by rintro rfl; exact h.none_ hs
/-- The elements from the k-th up to the m-th. -/
theorem Sl.sub (h : Sl w A n c size vs) {k m K : Nat} (hk : k ≤ m) (hm : m ≤ n) (hK : K = k * size) : Sl w (A.map (fun x => x.add K)) (m - k) (c - k) size ((vs.drop K).take ((m - k) * size)) := by
  have h1 := h.len
  have h2 := h.cap
  have h3 := h.max
  refine ⟨(h.see.drop K).take _, ?_, by omega, by omega⟩
  have e : (m - k) * size + k * size = m * size := by rw [← Nat.add_mul, Nat.sub_add_cancel hk]
  have e2 : m * size ≤ n * size := Nat.mul_le_mul_right _ hm
  rw [List.length_take, List.length_drop, h1, hK]
  omega
theorem Sl.sub0 (h : Sl w A n c size vs) {m : Nat} (hm : m ≤ n) : Sl w A m c size (vs.take (m * size)) := by
  have h1 := h.len
  have h2 := h.cap
  have e2 : m * size ≤ n * size := Nat.mul_le_mul_right _ hm
  exact ⟨h.see.take _, by rw [List.length_take, h1]; omega, by omega, h.max⟩
theorem Sl.nil_ (w : World) (size : Nat) : Sl w none 0 0 size [] := ⟨.inl rfl, by simp, Nat.le_refl _, Nat.zero_le _⟩
end

theorem own_form {w : World} {base : Nat} {e : TypeId} {size n : Nat} {v : Value} {vs : List Value} (h : w.ownsRow base e size v n vs) :
    ∃ A c, v = .slice A n c ∧ n ≤ c ∧ c ≤ maxLen ∧ (A = none ∨ ∃ g, A = some ⟨g, 0, none⟩ ∧ base ≤ g ∧ g < w.heap.size) := by
  rcases h.2 with ⟨rfl, rfl⟩ | ⟨g, cap, cur, rfl, hb, hg, h1, h2, _⟩
  · exact ⟨_, _, rfl, Nat.le_refl _, Nat.zero_le _, .inl rfl⟩
  · exact ⟨_, _, rfl, h1, h2, .inr ⟨g, rfl, hb, (Array.getElem?_eq_some_iff.1 hg).1⟩⟩
theorem own_sl {w : World} {base : Nat} {e : TypeId} {size n c : Nat} {A : Option Addr} {vs : List Value} (h : w.ownsRow base e size (.slice A n c) n vs) : Sl w A n c size vs := by
  obtain ⟨A', c', hv, h1, h2, _⟩ := own_form h
  obtain ⟨rfl, rfl⟩ : A = A' ∧ c = c' := by injection hv with a b d; exact ⟨a, d⟩
  exact ⟨See.of_own h, h.1, h1, h2⟩
theorem own_below {w w' : World} {base : Nat} {e : TypeId} {size n : Nat} {v : Value} {vs : List Value} (h : w.ownsRow base e size v n vs) (hb : Below w.heap.size w w') : w'.ownsRow base e size v n vs :=
  h.kept (row := none) ⟨hb.os, hb.tape, hb.output, hb.size, fun k hk _ => hb.block k hk⟩ (by cases hv : v.ownBlock <;> simp)
theorem own_lower {w : World} {base base' : Nat} {e : TypeId} {size n : Nat} {v : Value} {vs : List Value} (h : w.ownsRow base e size v n vs) (hb : base' ≤ base) : w.ownsRow base' e size v n vs := by
  refine ⟨h.1, ?_⟩
  rcases h.2 with h2 | ⟨g, cap, cur, hv, hg, r⟩
  · exact .inl h2
  · exact .inr ⟨g, cap, cur, hv, Nat.le_trans hb hg, r⟩
theorem own_drewN {w : World} {base : Nat} {e : TypeId} {size n : Nat} {v : Value} {vs : List Value} (h : w.ownsRow base e size v n vs) (k : Nat) : (w.drewN k).ownsRow base e size v n vs := h
/-- Two rows of the call's own, the second laid behind the first, lie apart. -/
theorem own_apart {w w1 : World} {base B : Nat} {e : TypeId} {size n m : Nat} {v v1 : Value} {vs vs1 : List Value} {e1 : TypeId} {size1 : Nat}
    (h : w.ownsRow base e size v n vs) (h1 : w1.ownsRow B e1 size1 v1 m vs1) (hB : w.heap.size ≤ B) : v.ownBlock = none ∨ v.ownBlock ≠ v1.ownBlock := by
  cases hv : v.ownBlock with
  | none => exact .inl rfl
  | some k =>
    refine .inr fun e => ?_
    have a := (h.lt k hv).2
    have b := (h1.lt k e.symm).1
    omega
theorem own_apart' {w w1 : World} {base B : Nat} {e : TypeId} {size n m : Nat} {v v1 : Value} {vs vs1 : List Value} {e1 : TypeId} {size1 : Nat}
    (h : w.ownsRow base e size v n vs) (h1 : w1.ownsRow B e1 size1 v1 m vs1) (hB : w.heap.size ≤ B) : v1.ownBlock = none ∨ v1.ownBlock ≠ v.ownBlock := by
  cases hv : v1.ownBlock with
  | none => exact .inl rfl
  | some k =>
    refine .inr fun e => ?_
    have a := (h1.lt k hv).1
    have b := (h.lt k e.symm).2
    omega
theorem below_of_grown {w w' : World} {row : Option Nat} (hg : w.grownBy w' row) {B : Nat} (hB : B ≤ w.heap.size) (hr : ∀ k, row = some k → B ≤ k) : Below B w w' :=
  (Below.refl B w).grown hg hB hr
theorem below_drewN {B : Nat} {a w : World} (h : Below B a w) (n : Nat) : Below B a (w.drewN n) := ⟨h.os, h.tape, h.output, h.size, h.block⟩
theorem grown_of_below {w w' : World} (hb : Below w.heap.size w w') (row : Option Nat) : w.grownBy w' row := ⟨hb.os, hb.tape, hb.output, hb.size, fun k hk _ => hb.block k hk⟩
theorem grown_of_below' {w w' : World} {B : Nat} (hb : Below B w w') (hB : w.heap.size ≤ B) (row : Option Nat) : w.grownBy w' row := grown_of_below (hb.mono hB) row
/-- Behind two calls: what lay ahead of both. -/
theorem below_next {w w1 w2 : World} (h : Below w.heap.size w w1) (h' : Below w1.heap.size w1 w2) : Below w.heap.size w w2 := h.trans (h'.mono h.size)

/-- What the append law asks of an element's type. -/
structure Elt (P : Program) (t e : TypeId) (size bytes : Nat) : Prop where
  ty : P.underlying t = some (.slice e)
  info : ∃ (i : TypeInfo) (z : Value), P.info? e = some i ∧ i.zero = some z ∧ i.size = size ∧ i.bytes = bytes ∧ z.cells.size = size
  pos : 0 < size

theorem elt_mk {P : Program} {t e : TypeId} {z : Value} {size bytes : Nat} (h : (P.info? e).map (fun i => (i.zero, i.size, i.bytes)) = some (some z, size, bytes)) (hz : z.cells.size = size)
    (ty : P.underlying t = some (.slice e)) (pos : 0 < size) : Elt P t e size bytes := by
  obtain ⟨i, hi, h0, h1, h2⟩ := info_parts h
  exact ⟨ty, ⟨i, z, hi, h0, h1, h2, hz⟩, pos⟩

section
variable {P : Program} (w : World)
theorem run_append_none (base : Nat) (t ty e : TypeId) (i : TypeInfo) (size : Nat) (ht : P.underlying t = some (.slice e)) (hi : P.info? e = some i)
    (v : Value) (n : Nat) (xs : List Value) (hown : w.ownsRow base e size v n xs) (c : Nat) : (Builtin.append_ #[t, t] ty #[v, .slice none 0 c]).run P w = .ok v w := by
  rcases hown.2 with ⟨rfl, rfl⟩ | ⟨g, cap, cur, rfl, _, _, hnc, _⟩
  · simp [Builtin.append_, run_underlying ht, sizeOf, typeInfo, hi, Builtin.lenOf, Builtin.firstCells]
  · simp [Builtin.append_, run_underlying ht, sizeOf, typeInfo, hi, Builtin.lenOf, Builtin.firstCells, hnc, storeCells]

/-- append onto a row of the call's own, from a slice that shows news. -/
theorem run_append_see {t e : TypeId} {size bytes : Nat} (E : Elt P t e size bytes) (ty : TypeId) (base : Nat) (v : Value) (n : Nat) (xs : List Value) (hown : w.ownsRow base e size v n xs)
    (A : Option Addr) (m c : Nat) (news : List Value) (hs : See w A news) (hA : A = none → m = 0) (hl : news.length = m * size) (h1 : ∀ u ∈ news, u.oneCell' = true)
    (h63 : n + m ≤ maxLen) (hbytes : (n + m) * bytes ≤ 140737488355328) (hbase : base ≤ w.heap.size) :
    ∃ v' w', (Builtin.append_ #[t, t] ty #[v, .slice A m c]).run P w = .ok v' w' ∧ w'.ownsRow base e size v' (n + m) (xs ++ news) ∧ w.grownBy w' v.ownBlock ∧
      (v'.ownBlock = v.ownBlock ∨ v'.ownBlock = some w.heap.size) := by
  obtain ⟨ht, ⟨i, z, hi, hz, hsize, hby, hzs⟩, hpos⟩ := E
  rcases A with _ | ad
  · obtain rfl := hA rfl
    have hn : news = [] := List.eq_nil_of_length_eq_zero (by simpa using hl)
    subst hn
    exact ⟨v, w, run_append_none w base t ty e i size ht hi v n xs hown c, by simpa using hown, World.grownBy.refl w _, .inl rfl⟩
  · have hcells : ∀ j u, news[j]? = some u → w.cell? (ad.add j) = some u := by
      intro j u hu
      rcases hs with h | ⟨ad', h, hc⟩
      · subst h; simp at hu
      · injection h with h; subst h; exact hc j u hu
    obtain ⟨v', w', hrun, h2, h3, _, h5⟩ := run_append_own_at (P := P) w base t ty e i z size bytes ht hi hz hsize hby hzs hpos v n xs hown ad m c news hl hcells h1 h63 hbytes hbase
    exact ⟨v', w', hrun, h2, h3, h5⟩

theorem wp_append_see {o : Oper} {a : Act} {K : Act → World → Prop} {Q : Exit → Act → World → Prop} (s x : Operand) {t e : TypeId} {size bytes : Nat} (E : Elt P t e size bytes)
    (ho : o.op = .call { callee := .builtin .append, args := #[s, x], argTypes := #[t, t] })
    (base : Nat) (v : Value) (n : Nat) (xs : List Value) (hs : a.eval s = v) (hown : w.ownsRow base e size v n xs)
    (A : Option Addr) (m c : Nat) (news : List Value) (hx : a.eval x = .slice A m c) (hsee : See w A news) (hA : A = none → m = 0) (hl : news.length = m * size) (h1 : ∀ u ∈ news, u.oneCell' = true)
    (h63 : n + m ≤ maxLen) (hbytes : (n + m) * bytes ≤ 140737488355328) (hbase : base ≤ w.heap.size)
    (h : ∀ v' w', w'.ownsRow base e size v' (n + m) (xs ++ news) → w.grownBy w' v.ownBlock → (v'.ownBlock = v.ownBlock ∨ v'.ownBlock = some w.heap.size) → K (a.put o.dst v') w') : o.wp P a w K Q := by
  obtain ⟨v', w', hrun, h2, h3, h4⟩ := run_append_see (P := P) w E o.type base v n xs hown A m c news hsee hA hl h1 h63 hbytes hbase
  unfold Oper.wp execOp
  simp only [ho, resolve, invoke, builtin, Sem.run_bind, Sem.run_pure, Result.andThen_ok, List.map_toArray, List.map_cons, List.map_nil, hs, hx, hrun]
  exact h v' w' h2 h3 h4

/-- At the operation, for the walk. -/
theorem wpList_append_see {ops : Array Oper} {rest : List Oper} {o : Oper} {a : Act} {Q : Exit → Act → World → Prop} (hgd : o.guard = none) (s x : Operand) {t e : TypeId} {size bytes : Nat} (E : Elt P t e size bytes)
    (ho : o.op = .call { callee := .builtin .append, args := #[s, x], argTypes := #[t, t] })
    (base : Nat) (v : Value) (n : Nat) (xs : List Value) (hs : a.eval s = v) (hown : w.ownsRow base e size v n xs)
    (A : Option Addr) (m c : Nat) (news : List Value) (hx : a.eval x = .slice A m c) (hsee : See w A news) (hA : A = none → m = 0) (hl : news.length = m * size) (h1 : ∀ u ∈ news, u.oneCell' = true)
    (h63 : n + m ≤ maxLen) (hbytes : (n + m) * bytes ≤ 140737488355328) (hbase : base ≤ w.heap.size)
    (h : ∀ v' w', w'.ownsRow base e size v' (n + m) (xs ++ news) → w.grownBy w' v.ownBlock → (v'.ownBlock = v.ownBlock ∨ v'.ownBlock = some w.heap.size) → wpList P ops Q rest (a.put o.dst v') w') : wpList P ops Q (o :: rest) a w :=
  wpList_plain hgd fun _ hK => wp_append_see w s x E ho base v n xs hs hown A m c news hx hsee hA hl h1 h63 hbytes hbase fun v' w' h2 h3 h4 => hK _ _ (h v' w' h2 h3 h4)
end

/-- What a law's walk is told of a slice of integers that came in. -/
structure Row (k : IntKind) (w : World) (A : Option Addr) (len cap : Nat) (zs : List Int) : Prop where
  sl : Sl w A len cap 1 (zs.map (Value.int k))
  wf : ∀ z ∈ zs, (Lit.int k z).wf = true
theorem Row.byte {w : World} {A : Option Addr} {len cap : Nat} {zs : List Int} (h : Row .u8 w A len cap zs) : ∀ z ∈ zs, 0 ≤ z ∧ z ≤ 255 := by
  intro z hz
  have := h.wf z hz
  have h2 : IntKind.u8.min ≤ z ∧ z ≤ IntKind.u8.max := by simpa [Lit.wf] using this
  exact h2
theorem row_nil (k : IntKind) (w : World) : Row k w none 0 0 [] := ⟨Sl.nil_ _ _, by simp⟩
theorem row_some {k : IntKind} {w : World} {x : Addr} {l c : Nat} {zs : List Int} (hl : l ≤ c) (hm : c ≤ maxLen) (hz : zs.length = c)
    (hc : ∀ i, i < zs.length → w.cell? (x.add i) = some (.int k (zs.getD i 0))) (hw : ∀ n ∈ zs, (Lit.int k n).wf = true) : Row k w (some x) l c (zs.take l) := by
  refine ⟨⟨.inr ⟨x, rfl, fun j u hu => ?_⟩, by simp; omega, hl, hm⟩, fun z hz' => hw z (List.mem_of_mem_take hz')⟩
  rw [List.getElem?_map, List.getElem?_take] at hu
  split at hu
  · rename_i hj
    have hjz : j < zs.length := by omega
    rw [hc j hjz, List.getD_eq_getElem?_getD]
    rw [List.getElem?_eq_getElem hjz] at hu ⊢
    simpa using hu
  · simp at hu
end Go.Proofs.Ytlfjnaeepblhiaa
