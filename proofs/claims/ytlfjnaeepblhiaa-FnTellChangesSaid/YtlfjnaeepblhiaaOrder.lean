/- A region that draws its order: an invariant over what has come up serves every order. -/
import Derived.Orders
import Derived.Still
import Derived.WalkKit
namespace Go.Proofs.Ytlfjnaeepblhiaa
open Go Go.RowKit

/-- The operation of a region that writes a slot. -/
def idxOf (l : List Oper) (t : Tmp) : Option Nat := l.findIdx? (fun o => o.dst == some t)
/-- What an operand reads, once all that it leans on has come up: env i is what operation i yields. -/
def rho (l : List Oper) (a0 : Act) (env : Nat → Value) : Operand → Value
  | .tmp t => match idxOf l t with
    | some j => env j
    | none => a0.tmps.getD t undef
  | .const v => v
  | .global g => .pointer (some ⟨g, 0, none⟩)
  | .func f => .func (.func f) #[] #[]
def isSelect : Op → Bool
  | .select _ _ => true
  | _ => false
def okOp (l : List Oper) (n : Nat) (i : Nat) (o : Oper) : Bool :=
  (o.after.all fun e => !Region.binds .any e || decide (e.on < i)) && o.guard.isNone && !isSelect o.op &&
  (o.op.operands.all fun x => match x with
    | .tmp t => match idxOf l t with
      | some j => o.after.any fun e => e.on == j && Region.binds .any e
      | none => true
    | _ => true) &&
  (match o.dst with
    | some d => decide (d < n) && idxOf l d == some i
    | none => true)
def okRegion (l : List Oper) (n : Nat) : Bool := (List.range l.length).all fun i => match l[i]? with
  | some o => okOp l n i o
  | none => true

/-- What an operation comes to. -/
def Yield (P : Program) (o : Oper) (ρ : Operand → Value) (w : World) (R : Value → World → Prop) : Prop :=
  match (execOp ρ o).run P w with
  | .ok (.value v) w' => R v w'
  | .ok .skip w' => R undef w'
  | .ok (.enter f args) w' => Calls P f args w' (fun e w'' => ∃ v, e = .returned v ∧ R v w'')
  | _ => False
theorem wp_of_yield {P : Program} {o : Oper} {a : Act} {w : World} {K : Act → World → Prop} {Q : Exit → Act → World → Prop} {R : Value → World → Prop}
    (h : Yield P o a.eval w R) (hK : ∀ v w', R v w' → K (a.put o.dst v) w') : o.wp P a w K Q := by
  unfold Yield at h
  unfold Oper.wp
  generalize (execOp a.eval o).run P w = r at *
  cases r with
  | ok n w' =>
    cases n <;> simp only [Oper.upon] at h ⊢
    case value v => exact hK _ _ h
    case skip => exact hK _ _ h
    case enter f args => exact h.mono fun e w'' ⟨v, he, hR⟩ => by subst he; exact hK _ _ hR
  | halt x w' => exact h.elim

section
variable {P : Program} {l : List Oper} {a0 : Act} {W : Nat → World → Prop} {Tr : World → World → Prop} {F : Nat → Value → World → Prop}

/-- How many are still to come. -/
def left (L : Array Bool) : Nat := L.toList.countP (fun b => !b)
structure Inv (l : List Oper) (a0 : Act) (W : Nat → World → Prop) (F : Nat → Value → World → Prop) (L : Array Bool) (env : Nat → Value) (a : Act) (w : World) : Prop where
  len : L.size = l.length
  size : a.tmps.size = a0.tmps.size
  defers : a.defers = a0.defers
  slots : ∀ t, t < a0.tmps.size → a.tmps[t]? = match idxOf l t with
    | some j => if L.getD j false = true then some (env j) else a0.tmps[t]?
    | none => a0.tmps[t]?
  facts : ∀ i, L.getD i false = true → F i (env i) w
  world : W (l.length - left L) w

/-- The frame behind the region. -/
def after (l : List Oper) (a0 : Act) (env : Nat → Value) : Act :=
  ⟨((List.range a0.tmps.size).map fun t => match idxOf l t with
    | some j => env j
    | none => a0.tmps.getD t undef).toArray, a0.defers⟩

theorem idxOf_lt {l : List Oper} {t : Tmp} {j : Nat} (h : idxOf l t = some j) : j < l.length := by
  unfold idxOf at h
  exact (List.findIdx?_eq_some_iff_findIdx_eq.1 h).1

theorem inv_after {L : Array Bool} {env : Nat → Value} {a : Act} {w : World} (h : Inv l a0 W F L env a w) (hall : ∀ i, i < l.length → L.getD i false = true) : a = after l a0 env := by
  obtain ⟨tmps, defers⟩ := a
  have hd := h.defers
  have hs := h.size
  simp only at hd hs
  subst hd
  unfold after
  congr 1
  refine Array.ext (by simp [hs]) fun t h1 h2 => ?_
  have ht : t < a0.tmps.size := by omega
  have e := h.slots t ht
  simp only [Array.getElem?_eq_getElem h1] at e
  simp only [List.getElem_toArray, List.getElem_map, List.getElem_range]
  cases hj : idxOf l t with
  | none =>
    simp only [hj, Array.getElem?_eq_getElem ht] at e
    injection e with e
    simp [e, ht]
  | some j =>
    simp only [hj, hall j (idxOf_lt hj), if_true] at e
    injection e

theorem okRegion_at {n i : Nat} {o : Oper} (h : okRegion l n = true) (hi : l[i]? = some o) : okOp l n i o = true := by
  unfold okRegion at h
  have hlt : i < l.length := (List.getElem?_eq_some_iff.1 hi).1
  have := (List.all_eq_true.1 h) i (List.mem_range.2 hlt)
  simpa [hi] using this
theorem idxOf_dst {t : Tmp} {j : Nat} (h : idxOf l t = some j) : ∃ o, l[j]? = some o ∧ o.dst = some t := by
  have hlt := idxOf_lt h
  unfold idxOf at h
  have := List.findIdx?_eq_some_iff_getElem.1 h
  obtain ⟨hj, h1, _⟩ := this
  exact ⟨l[j], by simp, by simpa using h1⟩
theorem inv_eval {L : Array Bool} {env : Nat → Value} {a : Act} {w : World} (h : Inv l a0 W F L env a w) {i : Nat} {o : Oper} (hR : okRegion l a0.tmps.size = true) (hi : l[i]? = some o)
    (hdeps : ∀ e ∈ o.after.toList, Region.binds .any e = true → L.getD e.on false = true) : execOp a.eval o = execOp (rho l a0 env) o := by
  have hok := okRegion_at hR hi
  unfold okOp at hok
  simp only [Bool.and_eq_true] at hok
  obtain ⟨⟨⟨⟨_, _⟩, hsel⟩, hops⟩, _⟩ := hok
  refine execOp_congr o (fun cs b e => by rw [e] at hsel; simp [isSelect] at hsel) fun x hx => ?_
  rw [Array.all_eq_true_iff_forall_mem] at hops
  have hx' := hops x hx
  cases x with
  | tmp t =>
    simp only [Act.eval, rho]
    simp only at hx'
    rcases Nat.lt_or_ge t a0.tmps.size with ht | ht
    · have e := h.slots t ht
      have hta : t < a.tmps.size := by rw [h.size]; exact ht
      cases hj : idxOf l t with
      | none =>
        simp only [hj] at e
        simp only [Array.getD_eq_getD_getElem?, e]
      | some j =>
        simp only [hj] at e hx'
        have hl : L.getD j false = true := by
          simp only [Array.any_eq_true', Bool.and_eq_true, beq_iff_eq] at hx'
          obtain ⟨ed, hed, h1, h2⟩ := hx'
          rw [← h1]; exact hdeps ed (by simpa using hed) h2
        rw [hl, if_pos rfl] at e
        simp only [Array.getD_eq_getD_getElem?, e, Option.getD_some]
    · have hta : a.tmps.size ≤ t := by rw [h.size]; exact ht
      cases hj : idxOf l t with
      | none => simp only [Array.getD_eq_getD_getElem?, Array.getElem?_eq_none hta, Array.getElem?_eq_none ht]
      | some j =>
        obtain ⟨oj, h1, h2⟩ := idxOf_dst hj
        have hokj := okRegion_at hR h1
        unfold okOp at hokj
        rw [h2] at hokj
        have h3 : (decide (t < a0.tmps.size) && idxOf l t == some j) = true := (Bool.and_eq_true_iff.1 hokj).2
        exact absurd (of_decide_eq_true (Bool.and_eq_true_iff.1 h3).1) (Nat.not_lt.2 ht)
  | const v => rfl
  | global g => rfl
  | func f => rfl

theorem getD_set {L : Array Bool} {i j : Nat} (hi : i < L.size) : (L.setIfInBounds i true).getD j false = if j = i then true else L.getD j false := by
  simp only [Array.getD_eq_getD_getElem?, Array.getElem?_setIfInBounds]
  by_cases h : i = j
  · subst h; simp [hi]
  · rw [if_neg h, if_neg (fun e => h e.symm)]

theorem left_set {L : Array Bool} {i : Nat} (hi : i < L.size) (h : L.getD i true = false) : left (L.setIfInBounds i true) + 1 = left L := by
  unfold left
  rw [Array.toList_setIfInBounds]
  have hi' : i < L.toList.length := by simpa using hi
  have hv : L.toList[i] = false := by
    have : L.getD i true = L[i] := by simp [hi]
    rw [this] at h; simpa using h
  have e : L.toList = L.toList.take i ++ L.toList[i] :: L.toList.drop (i + 1) := by
    rw [List.getElem_cons_drop, List.take_append_drop]
  rw [List.set_eq_take_append_cons_drop, if_pos hi', List.countP_append, List.countP_cons]
  conv => rhs; rw [e, List.countP_append, List.countP_cons, hv]
  simp
  omega
theorem left_le {L : Array Bool} (h : L.size = l.length) : left L ≤ l.length := by
  rw [← h]; unfold left; exact Nat.le_trans List.countP_le_length (by simp)
theorem inv_step {L : Array Bool} {env : Nat → Value} {a : Act} {w w' : World} {i : Nat} {o : Oper} {v : Value} (h : Inv l a0 W F L env a w) (hR : okRegion l a0.tmps.size = true) (hi : l[i]? = some o)
    (hst : ∀ i v, F i v w → F i v w') (hb : L.getD i true = false) (hF : F i v w') (hW : W (l.length - left L + 1) w') : Inv l a0 W F (L.setIfInBounds i true) (fun k => if k = i then v else env k) (a.put o.dst v) w' := by
  have hlt : i < l.length := (List.getElem?_eq_some_iff.1 hi).1
  have hiL : i < L.size := by rw [h.len]; exact hlt
  have hok := okRegion_at hR hi
  unfold okOp at hok
  simp only [Bool.and_eq_true] at hok
  have hdst := hok.2
  refine ⟨by simp [h.len], ?_, ?_, fun t ht => ?_, fun j hj => ?_, by have e1 := left_set hiL hb; have e2 := left_le h.len; rw [show l.length - left (L.setIfInBounds i true) = l.length - left L + 1 by omega]; exact hW⟩
  · cases hd : o.dst <;> simp [Act.put, h.size]
  · cases hd : o.dst <;> simp [Act.put, h.defers]
  · have e := h.slots t ht
    have hta : t < a.tmps.size := by rw [h.size]; exact ht
    cases hd : o.dst with
    | none =>
      simp only [Act.put, e]
      cases hj : idxOf l t with
      | none => rfl
      | some j =>
        simp only [getD_set hiL]
        have hne : j ≠ i := by
          rintro rfl
          obtain ⟨oj, h1, h2⟩ := idxOf_dst hj
          rw [hi] at h1; injection h1 with h1; subst h1; rw [hd] at h2; cases h2
        rw [if_neg hne, if_neg hne]
    | some d =>
      rw [hd] at hdst
      simp only [Bool.and_eq_true, decide_eq_true_eq, beq_iff_eq] at hdst
      simp only [Act.put, Array.getElem?_setIfInBounds]
      by_cases hdt : d = t
      · subst hdt
        rw [if_pos rfl, if_pos hta, hdst.2]
        simp only [getD_set hiL, if_true]
      · rw [if_neg hdt, e]
        cases hj : idxOf l t with
        | none => rfl
        | some j =>
          simp only [getD_set hiL]
          have hne : j ≠ i := by
            rintro rfl
            obtain ⟨oj, h1, h2⟩ := idxOf_dst hj
            rw [hi] at h1; injection h1 with h1; subst h1; rw [hd] at h2; injection h2 with h2; exact hdt h2
          rw [if_neg hne, if_neg hne]
  · rw [getD_set hiL] at hj
    by_cases e : j = i
    · subst e; simpa using hF
    · rw [if_neg e] at hj ⊢
      exact hst _ _ (h.facts j hj)

theorem left_zero {L : Array Bool} (h : left L = 0) (i : Nat) (hi : i < L.size) : L.getD i false = true := by
  unfold left at h
  rw [List.countP_eq_zero] at h
  have := h L[i] (by simp)
  simp only [Array.getD_eq_getD_getElem?, Array.getElem?_eq_getElem hi, Option.getD_some]
  simpa using this

theorem all_listed {L : Array Bool} (hlen : L.size = l.length) (hR : okRegion l a0.tmps.size = true) (hr : Region.ready .any l.toArray L = []) : ∀ i, i < l.length → L.getD i false = true := by
  intro i
  induction i using Nat.strongRecOn with
  | ind i ih =>
    intro hi
    have ho : l[i]? = some l[i] := by simp
    have hok := okRegion_at hR ho
    unfold okOp at hok
    simp only [Bool.and_eq_true] at hok
    have haf := hok.1.1.1.1
    cases hb : L.getD i false with
    | true => rfl
    | false =>
      exfalso
      have hiL : i < L.size := by omega
      have hb' : L.getD i true = false := by
        simp only [Array.getD_eq_getD_getElem?, Array.getElem?_eq_getElem hiL, Option.getD_some] at hb ⊢; exact hb
      have : i ∈ Region.ready .any l.toArray L := by
        unfold Region.ready
        refine List.mem_filter.2 ⟨by simpa using hi, ?_⟩
        simp only [hb', Bool.not_false, Bool.true_and, List.getElem?_toArray, ho, Option.map_some, Option.getD_some]
        rw [Array.all_eq_true_iff_forall_mem] at haf ⊢
        intro e he
        have := haf e he
        cases hbe : Region.binds .any e with
        | false => simp
        | true =>
          simp only [hbe, Bool.not_true, Bool.false_or, decide_eq_true_eq] at this
          rw [ih e.on this (by omega)]
          simp
      rw [hr] at this
      cases this

theorem left_none {L : Array Bool} (h : L.size = l.length) (hall : ∀ i, i < l.length → L.getD i false = true) : left L = 0 := by
  unfold left
  rw [List.countP_eq_zero]
  intro b hb
  obtain ⟨i, hi, rfl⟩ := List.getElem_of_mem hb
  have hi' : i < L.size := by simpa using hi
  have := hall i (by omega)
  simp only [Array.getD_eq_getD_getElem?, Array.getElem?_eq_getElem hi', Option.getD_some] at this
  simp [this]
theorem any_of_inv {Q : Exit → Act → World → Prop} (hR : okRegion l a0.tmps.size = true) (hst : ∀ k w w' i v, W k w → Tr w w' → F i v w → F i v w')
    (hstep : ∀ i o, l[i]? = some o → ∀ k env w, k < l.length → W k w → (∀ e ∈ o.after.toList, Region.binds .any e = true → F e.on (env e.on) w) → Yield P o (rho l a0 env) w (fun v w' => F i v w' ∧ W (k + 1) w' ∧ Tr w w'))
    (hfin : ∀ env w, W l.length w → (∀ i, i < l.length → F i (env i) w) → Q .normal (after l a0 env) w) :
    ∀ (fuel : Nat) (L : Array Bool) (env : Nat → Value) (a : Act) (w : World), left L ≤ fuel → Inv l a0 W F L env a w → wpAny P .any l.toArray Q fuel L a w := by
  intro fuel
  induction fuel with
  | zero =>
    intro L env a w hf h
    have hall : ∀ i, i < l.length → L.getD i false = true := fun i hi => left_zero (by omega) i (by rw [h.len]; exact hi)
    refine ⟨?_, ?_⟩
    · unfold Region.ready
      rw [List.filter_eq_nil_iff]
      intro i hi
      have hi' : i < l.length := by simpa using hi
      have hiL : i < L.size := by rw [h.len]; exact hi'
      have := hall i hi'
      simp only [Array.getD_eq_getD_getElem?, Array.getElem?_eq_getElem hiL, Option.getD_some] at this ⊢
      simp [this]
    · rw [inv_after h hall]
      exact hfin env w (by have := h.world; rwa [left_none h.len hall, Nat.sub_zero] at this) (fun i hi => h.facts i (hall i hi))
  | succ fuel ih =>
    intro L env a w hf h
    refine ⟨fun hr => ?_, fun i hi => ?_⟩
    · have hall := all_listed h.len hR hr
      rw [inv_after h hall]
      exact hfin env w (by have := h.world; rwa [left_none h.len hall, Nat.sub_zero] at this) (fun i hi => h.facts i (hall i hi))
    · unfold Region.ready at hi
      obtain ⟨h1, h2⟩ := List.mem_filter.1 hi
      have hi' : i < l.length := by simpa using h1
      have ho : l[i]? = some l[i] := by simp
      simp only [List.getElem?_toArray, ho, Option.map_some, Option.getD_some, Bool.and_eq_true, Bool.not_eq_true'] at h2
      obtain ⟨hb, hdep⟩ := h2
      have hdeps : ∀ e ∈ l[i].after.toList, Region.binds .any e = true → L.getD e.on false = true := by
        intro e he hbe
        rw [Array.all_eq_true_iff_forall_mem] at hdep
        have := hdep e (by simpa using he)
        simpa [hbe] using this
      have hiL : i < L.size := by rw [h.len]; exact hi'
      have hok := okRegion_at hR ho
      unfold okOp at hok
      simp only [Bool.and_eq_true] at hok
      have hg : l[i].guard = none := by simpa using hok.1.1.1.2
      have hlt := left_set hiL hb
      have hle := left_le h.len
      have hy := hstep i l[i] ho _ env w (by omega) h.world (fun e he hbe => h.facts _ (hdeps e he hbe))
      have hy' : Yield P l[i] a.eval w (fun v w' => F i v w' ∧ W (l.length - left L + 1) w' ∧ Tr w w') := by
        unfold Yield at hy ⊢
        rw [inv_eval h hR ho hdeps]; exact hy
      unfold wpOp
      simp only [List.getElem?_toArray, ho]
      rw [if_pos (by simp [Region.wanted, hg])]
      refine .inl (wp_of_yield hy' fun v w' hv => ih _ _ _ _ ?_ (inv_step h hR ho (fun j u hj => hst _ _ _ _ _ h.world hv.2.2 hj) hb hv.1 hv.2.1))
      have := left_set hiL hb
      omega

theorem left_rep (n : Nat) : left (Array.replicate n false) = n := by
  unfold left
  rw [List.countP_eq_length.2 (by intro b hb; simp at hb; simp [hb.2])]
  simp
theorem rep_false (n j : Nat) : (Array.replicate n false).getD j false = false := by
  rw [Array.getD_eq_getD_getElem?, Array.getElem?_replicate]
  split <;> rfl
/-- The law: W is the world's invariant, F what is known of each operation's value, Tr how worlds turn. -/
theorem wp_region_order {id : Nat} {Q : Exit → Act → World → Prop} {w : World} (hm : P.follows .mixedOrders = true) (hR : okRegion l a0.tmps.size = true) (hW : W 0 w.drew)
    (hst : ∀ k w w' i v, W k w → Tr w w' → F i v w → F i v w')
    (hstep : ∀ i o, l[i]? = some o → ∀ k env w, k < l.length → W k w → (∀ e ∈ o.after.toList, Region.binds .any e = true → F e.on (env e.on) w) → Yield P o (rho l a0 env) w (fun v w' => F i v w' ∧ W (k + 1) w' ∧ Tr w w'))
    (hfin : ∀ env w, W l.length w → (∀ i, i < l.length → F i (env i) w) → Q .normal (after l a0 env) w) : (Code.region id l.toArray true).wp P Q a0 w := by
  refine wp_region_any hm ?_
  refine any_of_inv hR hst hstep hfin _ _ (fun _ => undef) a0 _ ?_ ⟨by simp, rfl, rfl, fun t ht => ?_, fun i hi => ?_, by rw [left_rep]; simpa using hW⟩
  · unfold left
    have := List.countP_le_length (p := fun b : Bool => !b) (l := (Array.replicate l.toArray.size false).toList)
    simpa using this
  · cases idxOf l t with
    | none => rfl
    | some j => simp only [rep_false, Bool.false_eq_true, if_false]
  · rw [rep_false] at hi; cases hi

/-- The slot of an operation. -/
def dstAt (l : List Oper) (j : Nat) : Tmp := ((l[j]?).bind (·.dst)).getD 0
/-- What is known of the operations that one leans on: it is said of their slots. -/
def Deps (l : List Oper) (F : Nat → Value → World → Prop) (ρ : Operand → Value) (w : World) : List Edge → Prop
  | [] => True
  | e :: es => (Region.binds .any e = true → ((l[e.on]?).bind (·.dst)).isSome = true → F e.on (ρ (.tmp (dstAt l e.on))) w) ∧ Deps l F ρ w es
theorem deps_of {ρ : Operand → Value} {w : World} {env : Nat → Value} (hR : okRegion l a0.tmps.size = true) (hρ : ρ = rho l a0 env) : ∀ es : List Edge, (∀ e ∈ es, Region.binds .any e = true → F e.on (env e.on) w) → Deps l F ρ w es
  | [], _ => trivial
  | e :: es, h => ⟨fun hb hd => by
      obtain ⟨t, ht⟩ := Option.isSome_iff_exists.1 hd
      have e1 : dstAt l e.on = t := by unfold dstAt; rw [ht]; rfl
      obtain ⟨o, ho, hot⟩ := Option.bind_eq_some_iff.1 ht
      have hok := okRegion_at hR ho
      unfold okOp at hok
      rw [hot] at hok
      simp only [Bool.and_eq_true, beq_iff_eq] at hok
      have e2 : ρ (.tmp t) = env e.on := by rw [hρ]; simp only [rho, hok.2.2]
      rw [e1, e2]
      exact h e (by simp) hb, deps_of hR hρ es fun e' he' => h e' (by simp [he'])⟩
/-- Each operation, walked once. -/
def Steps (P : Program) (l : List Oper) (a0 : Act) (W : Nat → World → Prop) (Tr : World → World → Prop) (F : Nat → Value → World → Prop) : Nat → List Oper → Prop
  | _, [] => True
  | i, o :: rest => (∀ (k : Nat) (ρ : Operand → Value) (w : World), k < l.length → (∀ v, ρ (.const v) = v) → (∀ f, ρ (.func f) = .func (.func f) #[] #[]) → (∀ t, idxOf l t = none → ρ (.tmp t) = a0.tmps.getD t undef) → W k w →
      Deps l F ρ w o.after.toList → Yield P o ρ w (fun v w' => F i v w' ∧ W (k + 1) w' ∧ Tr w w')) ∧ Steps P l a0 W Tr F (i + 1) rest
theorem steps_at {ls : List Oper} {m : Nat} (h : Steps P l a0 W Tr F m ls) : ∀ (j : Nat) (o : Oper), ls[j]? = some o →
    (∀ (k : Nat) (ρ : Operand → Value) (w : World), k < l.length → (∀ v, ρ (.const v) = v) → (∀ f, ρ (.func f) = .func (.func f) #[] #[]) → (∀ t, idxOf l t = none → ρ (.tmp t) = a0.tmps.getD t undef) → W k w →
      Deps l F ρ w o.after.toList → Yield P o ρ w (fun v w' => F (m + j) v w' ∧ W (k + 1) w' ∧ Tr w w')) := by
  induction ls generalizing m with
  | nil => intro j o h; simp at h
  | cons x xs ih =>
    intro j o hj
    cases j with
    | zero => simp at hj; subst hj; exact h.1
    | succ j =>
      have := ih h.2 j o (by simpa using hj)
      rw [show m + (j + 1) = m + 1 + j by omega]
      exact this
theorem wp_region_steps {id : Nat} {Q : Exit → Act → World → Prop} {w : World} (hm : P.follows .mixedOrders = true) (hR : okRegion l a0.tmps.size = true) (hW : W 0 w.drew)
    (hst : ∀ k w w' i v, W k w → Tr w w' → F i v w → F i v w') (hstep : Steps P l a0 W Tr F 0 l)
    (hfin : ∀ env w, W l.length w → (∀ i, i < l.length → F i (env i) w) → Q .normal (after l a0 env) w) : (Code.region id l.toArray true).wp P Q a0 w :=
  wp_region_order hm hR hW hst (fun i o hi k env w hk hw hd => by
    have := steps_at hstep i o hi k (rho l a0 env) w hk (fun _ => rfl) (fun _ => rfl) (fun t ht => by simp only [rho, ht]) hw (deps_of hR rfl _ hd)
    simpa using this) hfin

theorem yield_move {o : Oper} {ρ : Operand → Value} {w : World} {R : Value → World → Prop} (x : Operand) (h : o.op = .move x) (hR : R (ρ x) w) : Yield P o ρ w R := by
  unfold Yield execOp; simp only [h]; exact hR
theorem yield_assign {o : Oper} {ρ : Operand → Value} {w : World} {R : Value → World → Prop} (x : Operand) (h : o.op = .assign x) (hR : R (ρ x) w) : Yield P o ρ w R := by
  unfold Yield execOp; simp only [h]; exact hR
set_option linter.unusedVariables false in
theorem yield_bin {o : Oper} {ρ : Operand → Value} {w : World} {R : Value → World → Prop} (b : BinOp) (t t' : TypeId) (x y : Operand) (v : Value) (h : o.op = .binOp b t x y t') (hv : (execOp ρ o).run P w = .ok (.value v) w) (hR : R v w) : Yield P o ρ w R := by
  unfold Yield; rw [hv]; exact hR
theorem yield_call {o : Oper} {ρ : Operand → Value} {w : World} {R : Value → World → Prop} (f : FuncId) (args : Array Value) (h : (execOp ρ o).run P w = .ok (.enter f args) w)
    (hR : Calls P f args w fun e w' => ∃ v, e = .returned v ∧ R v w') : Yield P o ρ w R := by
  unfold Yield; rw [h]; exact hR
theorem yield_value {o : Oper} {ρ : Operand → Value} {w w' : World} {R : Value → World → Prop} (v : Value) (h : (execOp ρ o).run P w = .ok (.value v) w') (hR : R v w') : Yield P o ρ w R := by
  unfold Yield; rw [h]; exact hR
end
end Go.Proofs.Ytlfjnaeepblhiaa
