/- A region that draws its order and assigns a slot which it reads itself: with a fact that holds until one of its operations comes up. -/
import Derived.Test.YtlfjnaeepblhiaaGhost
namespace Go.Proofs.Ytlfjnaeepblhiaa
open Go Go.RowKit
/-- What an operand of operation i reads: a slot that is assigned only behind operation i has its first value. -/
def rhoS (l : List Oper) (a0 : Act) (env : Nat → Value) (i : Nat) : Operand → Value
  | .tmp t => match idxOf l t with
    | some j => if ancB l l.length j i = true then a0.tmps.getD t undef else env j
    | none => a0.tmps.getD t undef
  | .const v => v
  | .global g => .pointer (some ⟨g, 0, none⟩)
  | .func f => .func (.func f) #[] #[]
/-- Whether operation i reads a slot's first value. -/
def freeB (l : List Oper) (i : Nat) (t : Tmp) : Bool := match idxOf l t with
  | some j => ancB l l.length j i
  | none => true
def okOpS (l : List Oper) (n : Nat) (i : Nat) (o : Oper) : Bool :=
  (o.after.all fun e => !Region.binds .any e || decide (e.on < i)) && o.guard.isNone && !isSelect o.op &&
  (o.op.operands.all fun x => match x with
    | .tmp t => match idxOf l t with
      | some j => (o.after.any fun e => e.on == j && Region.binds .any e) || ancB l l.length j i
      | none => true
    | _ => true) &&
  (match o.dst with
    | some d => decide (d < n) && idxOf l d == some i
    | none => true)
def okRegionS (l : List Oper) (n : Nat) : Bool := (List.range l.length).all fun i => match l[i]? with
  | some o => okOpS l n i o
  | none => true
section
variable {P : Program} {l : List Oper} {a0 : Act} {W : Nat → World → Prop} {F : Nat → Value → World → Prop}
theorem okRegion_atS {n i : Nat} {o : Oper} (h : okRegionS l n = true) (hi : l[i]? = some o) : okOpS l n i o = true := by
  unfold okRegionS at h
  have hlt : i < l.length := (List.getElem?_eq_some_iff.1 hi).1
  have := (List.all_eq_true.1 h) i (List.mem_range.2 hlt)
  simpa [hi] using this
theorem ancB_lt {n : Nat} (hR : okRegionS l n = true) : ∀ (f j i : Nat), ancB l f j i = true → i < j := by
  intro f
  induction f with
  | zero => intro j i h; simp [ancB] at h
  | succ f ih =>
    intro j i h
    unfold ancB at h
    cases ho : l[j]? with
    | none => rw [ho] at h; simp at h
    | some o =>
      rw [ho] at h
      simp only [Array.any_eq_true', Bool.and_eq_true, Bool.or_eq_true, beq_iff_eq] at h
      obtain ⟨e, he, hb, h2⟩ := h
      have hok := okRegion_atS hR ho
      unfold okOpS at hok
      simp only [Bool.and_eq_true] at hok
      have haf := hok.1.1.1.1
      rw [Array.all_eq_true_iff_forall_mem] at haf
      have := haf e (by simpa using he)
      simp only [hb, Bool.not_true, Bool.false_or, decide_eq_true_eq] at this
      rcases h2 with h2 | h2
      · omega
      · have := ih _ _ h2; omega
theorem inv_evalS {L : Array Bool} {env : Nat → Value} {a : Act} {w : World} (h : Inv l a0 W F L env a w) {i : Nat} {o : Oper} (hc : Closed l (fun i => L.getD i false)) (hR : okRegionS l a0.tmps.size = true) (hi : l[i]? = some o)
    (hbF : L.getD i false = false) (hdeps : ∀ e ∈ o.after.toList, Region.binds .any e = true → L.getD e.on false = true) : execOp a.eval o = execOp (rhoS l a0 env i) o := by
  have hok := okRegion_atS hR hi
  unfold okOpS at hok
  simp only [Bool.and_eq_true] at hok
  obtain ⟨⟨⟨⟨_, _⟩, hsel⟩, hops⟩, _⟩ := hok
  refine execOp_congr o (fun cs b e => by rw [e] at hsel; simp [isSelect] at hsel) fun x hx => ?_
  rw [Array.all_eq_true_iff_forall_mem] at hops
  have hx' := hops x hx
  cases x with
  | tmp t =>
    simp only [Act.eval, rhoS]
    simp only at hx'
    rcases Nat.lt_or_ge t a0.tmps.size with ht | ht
    · have e := h.slots t ht
      have hta : t < a.tmps.size := by rw [h.size]; exact ht
      cases hj : idxOf l t with
      | none =>
        simp only [hj] at e
        simp only [Array.getD_eq_getD_getElem?, e]
      | some j =>
        simp only [hj] at e hx'
        cases ha : ancB l l.length j i with
        | true =>
          have hl : L.getD j false = false := by
            cases hx : L.getD j false with
            | false => rfl
            | true =>
              have hy : L.getD i false = true := closed_anc hc _ _ _ ha hx
              rw [hbF] at hy; cases hy
          rw [hl, if_neg (by decide)] at e
          simp only [Array.getD_eq_getD_getElem?, e, ha, if_true]
        | false =>
          have hl : L.getD j false = true := by
            simp only [ha, Bool.or_false, Array.any_eq_true', Bool.and_eq_true, beq_iff_eq] at hx'
            obtain ⟨ed, hed, h1, h2⟩ := hx'
            rw [← h1]; exact hdeps ed (by simpa using hed) h2
          rw [hl, if_pos rfl] at e
          simp only [Array.getD_eq_getD_getElem?, e, Option.getD_some, ha, Bool.false_eq_true, if_false]
    · have hta : a.tmps.size ≤ t := by rw [h.size]; exact ht
      cases hj : idxOf l t with
      | none => simp only [Array.getD_eq_getD_getElem?, Array.getElem?_eq_none hta, Array.getElem?_eq_none ht]
      | some j =>
        obtain ⟨oj, h1, h2⟩ := idxOf_dst hj
        have hokj := okRegion_atS hR h1
        unfold okOpS at hokj
        rw [h2] at hokj
        have h3 : (decide (t < a0.tmps.size) && idxOf l t == some j) = true := (Bool.and_eq_true_iff.1 hokj).2
        exact absurd (of_decide_eq_true (Bool.and_eq_true_iff.1 h3).1) (Nat.not_lt.2 ht)
  | const v => rfl
  | global g => rfl
  | func f => rfl

theorem inv_stepS {L : Array Bool} {env : Nat → Value} {a : Act} {w w' : World} {i : Nat} {o : Oper} {v : Value} (h : Inv l a0 W F L env a w) (hR : okRegionS l a0.tmps.size = true) (hi : l[i]? = some o)
    (hst : ∀ i v, F i v w → F i v w') (hb : L.getD i true = false) (hF : F i v w') (hW : W (l.length - left L + 1) w') : Inv l a0 W F (L.setIfInBounds i true) (fun k => if k = i then v else env k) (a.put o.dst v) w' := by
  have hlt : i < l.length := (List.getElem?_eq_some_iff.1 hi).1
  have hiL : i < L.size := by rw [h.len]; exact hlt
  have hok := okRegion_atS hR hi
  unfold okOpS at hok
  simp only [Bool.and_eq_true] at hok
  have hdst := hok.2
  refine ⟨by simp [h.len], ?_, ?_, fun t ht => ?_, fun j hj => ?_, by have e1 := left_set hiL hb; have e2 := left_le h.len; rw [show l.length - left (L.setIfInBounds i true) = l.length - left L + 1 by omega]; exact hW⟩
  · cases hd : o.dst <;> simp [Act.put, h.size]
  · cases hd : o.dst <;> simp [Act.put, h.defers]
  · have e := h.slots t ht
    have hta : t < a.tmps.size := by rw [h.size]; exact ht
    cases hd : o.dst with
    | none =>
      simp only [Act.put, e]
      cases hj : idxOf l t with
      | none => rfl
      | some j =>
        simp only [getD_set hiL]
        have hne : j ≠ i := by
          rintro rfl
          obtain ⟨oj, h1, h2⟩ := idxOf_dst hj
          rw [hi] at h1; injection h1 with h1; subst h1; rw [hd] at h2; cases h2
        rw [if_neg hne, if_neg hne]
    | some d =>
      rw [hd] at hdst
      simp only [Bool.and_eq_true, decide_eq_true_eq, beq_iff_eq] at hdst
      simp only [Act.put, Array.getElem?_setIfInBounds]
      by_cases hdt : d = t
      · subst hdt
        rw [if_pos rfl, if_pos hta, hdst.2]
        simp only [getD_set hiL, if_true]
      · rw [if_neg hdt, e]
        cases hj : idxOf l t with
        | none => rfl
        | some j =>
          simp only [getD_set hiL]
          have hne : j ≠ i := by
            rintro rfl
            obtain ⟨oj, h1, h2⟩ := idxOf_dst hj
            rw [hi] at h1; injection h1 with h1; subst h1; rw [hd] at h2; injection h2 with h2; exact hdt h2
          rw [if_neg hne, if_neg hne]
  · rw [getD_set hiL] at hj
    by_cases e : j = i
    · subst e; simpa using hF
    · rw [if_neg e] at hj ⊢
      exact hst _ _ (h.facts j hj)

theorem all_listedS {L : Array Bool} (hlen : L.size = l.length) (hR : okRegionS l a0.tmps.size = true) (hr : Region.ready .any l.toArray L = []) : ∀ i, i < l.length → L.getD i false = true := by
  intro i
  induction i using Nat.strongRecOn with
  | ind i ih =>
    intro hi
    have ho : l[i]? = some l[i] := by simp
    have hok := okRegion_atS hR ho
    unfold okOpS at hok
    simp only [Bool.and_eq_true] at hok
    have haf := hok.1.1.1.1
    cases hb : L.getD i false with
    | true => rfl
    | false =>
      exfalso
      have hiL : i < L.size := by omega
      have hb' : L.getD i true = false := by
        simp only [Array.getD_eq_getD_getElem?, Array.getElem?_eq_getElem hiL, Option.getD_some] at hb ⊢; exact hb
      have : i ∈ Region.ready .any l.toArray L := by
        unfold Region.ready
        refine List.mem_filter.2 ⟨by simpa using hi, ?_⟩
        simp only [hb', Bool.not_false, Bool.true_and, List.getElem?_toArray, ho, Option.map_some, Option.getD_some]
        rw [Array.all_eq_true_iff_forall_mem] at haf ⊢
        intro e he
        have := haf e he
        cases hbe : Region.binds .any e with
        | false => simp
        | true =>
          simp only [hbe, Bool.not_true, Bool.false_or, decide_eq_true_eq] at this
          rw [ih e.on this (by omega)]
          simp
      rw [hr] at this
      cases this

theorem depsD_ofS {ρ : Operand → Value} {w : World} {env : Nat → Value} (hR : okRegionS l a0.tmps.size = true) {i : Nat} (hρ : ρ = rhoS l a0 env i) : ∀ es : List Edge, (∀ e ∈ es, dataB e = true → e.on < i) → (∀ e ∈ es, dataB e = true → F e.on (env e.on) w) → DepsD l F ρ w es
  | [], _, _ => trivial
  | e :: es, hlt, h => ⟨fun hb hd => by
      obtain ⟨t, ht⟩ := Option.isSome_iff_exists.1 hd
      have e1 : dstAt l e.on = t := by unfold dstAt; rw [ht]; rfl
      obtain ⟨o, ho, hot⟩ := Option.bind_eq_some_iff.1 ht
      have hok := okRegion_atS hR ho
      unfold okOpS at hok
      rw [hot] at hok
      simp only [Bool.and_eq_true, beq_iff_eq] at hok
      have e2 : ρ (.tmp t) = env e.on := by rw [hρ]; simp only [rhoS, hok.2.2]; rw [if_neg (fun hx => by have h1 := ancB_lt hR _ _ _ hx; have h2 := hlt e (by simp) hb; omega)]
      rw [e1, e2]
      exact h e (by simp) hb, depsD_ofS hR hρ es (fun e' he' => hlt e' (by simp [he'])) fun e' he' => h e' (by simp [he'])⟩
end
section
variable {P : Program} {l : List Oper} {a0 : Act} {W : Nat → World → Prop} {Tr : Nat → World → World → Prop} {F : Nat → Value → World → Prop} {dead : Nat → Nat → Bool} {d : Nat} {G : World → Prop}
theorem any_of_ghostS {Q : Exit → Act → World → Prop} (hR : okRegionS l a0.tmps.size = true) (hD : okDead l dead = true)
    (hG1 : ∀ i k w w', i < l.length → i ≠ d → W k w → Tr i w w' → G w → G w')
    (hst : ∀ i j k w w' v, i < l.length → j < l.length → i ≠ j → dead i j = false → ancB l l.length j i = false → W k w → Tr i w w' → F j v w → F j v w')
    (hstep : ∀ i o, l[i]? = some o → ∀ k env w, k < l.length → W k w → (∀ e ∈ o.after.toList, dataB e = true → F e.on (env e.on) w) → ((i == d || ancB l l.length d i) = true → G w) → Yield P o (rhoS l a0 env i) w (fun v w' => F i v w' ∧ W (k + 1) w' ∧ Tr i w w'))
    (hfin : ∀ env w, W l.length w → (∀ j, j < l.length → (∀ i, i < l.length → dead i j = false) → F j (env j) w) → Q .normal (after l a0 env) w) :
    ∀ (fuel : Nat) (L : Array Bool) (env : Nat → Value) (a : Act) (w : World), left L ≤ fuel → Inv0 l a0 W L env a w → Closed l (fun i => L.getD i false) →
      (∀ j, L.getD j false = true → Alive dead (fun i => L.getD i false) j → F j (env j) w) → (L.getD d false = false → G w) → wpAny P .any l.toArray Q fuel L a w := by
  intro fuel
  induction fuel with
  | zero =>
    intro L env a w hf h hc hF hG
    have hall : ∀ i, i < l.length → L.getD i false = true := fun i hi => left_zero (by omega) i (by rw [h.len]; exact hi)
    refine ⟨?_, ?_⟩
    · unfold Region.ready
      rw [List.filter_eq_nil_iff]
      intro i hi
      have hi' : i < l.length := by simpa using hi
      have hiL : i < L.size := by rw [h.len]; exact hi'
      have := hall i hi'
      simp only [Array.getD_eq_getD_getElem?, Array.getElem?_eq_getElem hiL, Option.getD_some] at this ⊢
      simp [this]
    · rw [inv_after h hall]
      exact hfin env w (by have := h.world; rwa [left_none h.len hall, Nat.sub_zero] at this) (fun j hj hd => hF j (hall j hj) (fun i hi => hd i (by have := getD_true_lt hi; rwa [h.len] at this)))
  | succ fuel ih =>
    intro L env a w hf h hc hF hG
    refine ⟨fun hr => ?_, fun i hi => ?_⟩
    · have hall := all_listedS h.len hR hr
      rw [inv_after h hall]
      exact hfin env w (by have := h.world; rwa [left_none h.len hall, Nat.sub_zero] at this) (fun j hj hd => hF j (hall j hj) (fun i hi => hd i (by have := getD_true_lt hi; rwa [h.len] at this)))
    · unfold Region.ready at hi
      obtain ⟨h1, h2⟩ := List.mem_filter.1 hi
      have hi' : i < l.length := by simpa using h1
      have ho : l[i]? = some l[i] := by simp
      simp only [List.getElem?_toArray, ho, Option.map_some, Option.getD_some, Bool.and_eq_true, Bool.not_eq_true'] at h2
      obtain ⟨hb, hdep⟩ := h2
      have hdeps : ∀ e ∈ l[i].after.toList, Region.binds .any e = true → L.getD e.on false = true := by
        intro e he hbe
        rw [Array.all_eq_true_iff_forall_mem] at hdep
        have := hdep e (by simpa using he)
        simpa [hbe] using this
      have hiL : i < L.size := by rw [h.len]; exact hi'
      have hbF : L.getD i false = false := by
        simp only [Array.getD_eq_getD_getElem?, Array.getElem?_eq_getElem hiL, Option.getD_some] at hb ⊢; exact hb
      have hok := okRegion_atS hR ho
      unfold okOpS at hok
      simp only [Bool.and_eq_true] at hok
      have hgd : l[i].guard = none := by simpa using hok.1.1.1.2
      have hlt := left_set hiL hb
      have hle := left_le h.len
      have halive : ∀ e ∈ l[i].after.toList, dataB e = true → F e.on (env e.on) w := by
        intro e he hbd
        have hbe := dataB_binds hbd
        refine hF _ (hdeps e he hbe) fun i' hi'' => ?_
        cases hdd : dead i' e.on with
        | false => rfl
        | true =>
          exfalso
          have hl' : i' < l.length := by have := getD_true_lt hi''; rwa [h.len] at this
          have hj' : e.on < l.length := by have := getD_true_lt (hdeps e he hbe); rwa [h.len] at this
          rcases okDead_at hD hl' hj' hdd ho he hbd rfl with rfl | ha
          · have hx : L.getD _ false = true := hi''
            rw [hbF] at hx; cases hx
          · have hx : L.getD i false = true := closed_anc hc _ _ _ ha hi''
            rw [hbF] at hx; cases hx
      have hgh : (i == d || ancB l l.length d i) = true → G w := fun he => hG (by
        cases hx : L.getD d false with
        | false => rfl
        | true =>
          exfalso
          simp only [Bool.or_eq_true, beq_iff_eq] at he
          rcases he with rfl | he
          · rw [hbF] at hx; cases hx
          · have hx : L.getD i false = true := closed_anc hc _ _ _ he hx
            rw [hbF] at hx; cases hx)
      have hy := hstep i l[i] ho _ env w (by omega) h.world halive hgh
      have hy' : Yield P l[i] a.eval w (fun v w' => F i v w' ∧ W (l.length - left L + 1) w' ∧ Tr i w w') := by
        unfold Yield at hy ⊢
        rw [inv_evalS h hc hR ho hbF hdeps]; exact hy
      unfold wpOp
      simp only [List.getElem?_toArray, ho]
      rw [if_pos (by simp [Region.wanted, hgd])]
      refine .inl (wp_of_yield hy' fun v w' hv => ih (L.setIfInBounds i true) (fun k => if k = i then v else env k) _ _ (by omega) (inv_stepS h hR ho (fun _ _ _ => trivial) hb trivial hv.2.1) ?_ ?_ ?_)
      · intro i' o' ho' hl' e he hbe
        simp only [getD_set hiL] at hl' ⊢
        by_cases ei : e.on = i
        · rw [if_pos ei]
        · rw [if_neg ei]
          by_cases e2 : i' = i
          · subst e2
            rw [ho] at ho'; injection ho' with ho'; subst ho'
            exact hdeps e he hbe
          · rw [if_neg e2] at hl'
            exact hc i' o' ho' hl' e he hbe
      · intro j hj hal
        rw [getD_set hiL] at hj
        by_cases e2 : j = i
        · subst e2; simpa using hv.1
        · rw [if_neg e2] at hj
          simp only [e2, if_false]
          have hjl : j < l.length := by have := getD_true_lt hj; rwa [h.len] at this
          have hanc : ancB l l.length j i = false := by
            cases hx : ancB l l.length j i with
            | false => rfl
            | true =>
              have hy : L.getD i false = true := closed_anc hc _ _ _ hx hj
              rw [hbF] at hy; cases hy
          refine hst i j _ _ _ _ hi' hjl (fun e => e2 e.symm) (hal i (by simp only [getD_set hiL]; simp)) hanc h.world hv.2.2 (hF j hj fun i' hi'' => hal i' ?_)
          simp only [getD_set hiL]
          by_cases e3 : i' = i
          · rw [if_pos e3]
          · rw [if_neg e3]; exact hi''
      · intro hx
        rw [getD_set hiL] at hx
        by_cases e2 : d = i
        · rw [if_pos e2] at hx; cases hx
        · rw [if_neg e2] at hx
          exact hG1 i _ _ _ hi' (fun e => e2 e.symm) h.world hv.2.2 (hG hx)
/-- Each operation, walked once. -/
def StepsGS (P : Program) (l : List Oper) (a0 : Act) (W : Nat → World → Prop) (Tr : Nat → World → World → Prop) (F : Nat → Value → World → Prop) (d : Nat) (G : World → Prop) : Nat → List Oper → Prop
  | _, [] => True
  | i, o :: rest => (∀ (k : Nat) (ρ : Operand → Value) (w : World), k < l.length → (∀ v, ρ (.const v) = v) → (∀ f, ρ (.func f) = .func (.func f) #[] #[]) → (∀ t, freeB l i t = true → ρ (.tmp t) = a0.tmps.getD t undef) → W k w →
      DepsD l F ρ w o.after.toList → ((i == d || ancB l l.length d i) = true → G w) → Yield P o ρ w (fun v w' => F i v w' ∧ W (k + 1) w' ∧ Tr i w w')) ∧ StepsGS P l a0 W Tr F d G (i + 1) rest
theorem stepsG_atS {ls : List Oper} {m : Nat} (h : StepsGS P l a0 W Tr F d G m ls) : ∀ (j : Nat) (o : Oper), ls[j]? = some o →
    (∀ (k : Nat) (ρ : Operand → Value) (w : World), k < l.length → (∀ v, ρ (.const v) = v) → (∀ f, ρ (.func f) = .func (.func f) #[] #[]) → (∀ t, freeB l (m + j) t = true → ρ (.tmp t) = a0.tmps.getD t undef) → W k w →
      DepsD l F ρ w o.after.toList → ((m + j == d || ancB l l.length d (m + j)) = true → G w) → Yield P o ρ w (fun v w' => F (m + j) v w' ∧ W (k + 1) w' ∧ Tr (m + j) w w')) := by
  induction ls generalizing m with
  | nil => intro j o h; simp at h
  | cons x xs ih =>
    intro j o hj
    cases j with
    | zero => simp at hj; subst hj; exact h.1
    | succ j =>
      have := ih h.2 j o (by simpa using hj)
      rw [show m + (j + 1) = m + 1 + j by omega]
      exact this
/-- The law. -/
theorem wp_region_ghostS {id : Nat} {Q : Exit → Act → World → Prop} {w : World} (hm : P.follows .mixedOrders = true) (hR : okRegionS l a0.tmps.size = true) (hD : okDead l dead = true) (hW : W 0 w.drew) (hG : G w.drew) (hG1 : ∀ i k w w', i < l.length → i ≠ d → W k w → Tr i w w' → G w → G w')
    (hst : ∀ i j k w w' v, i < l.length → j < l.length → i ≠ j → dead i j = false → ancB l l.length j i = false → W k w → Tr i w w' → F j v w → F j v w') (hstep : StepsGS P l a0 W Tr F d G 0 l)
    (hfin : ∀ env w, W l.length w → (∀ j, j < l.length → (∀ i, i < l.length → dead i j = false) → F j (env j) w) → Q .normal (after l a0 env) w) : (Code.region id l.toArray true).wp P Q a0 w := by
  refine wp_region_any hm ?_
  refine any_of_ghostS hR hD hG1 hst (fun i o hi k env w hk hw hd hg => ?_) hfin _ _ (fun _ => undef) a0 _ ?_ ⟨by simp, rfl, rfl, fun t ht => ?_, fun i hi => trivial, by rw [left_rep]; simpa using hW⟩ ?_ ?_ (fun _ => hG)
  · have := stepsG_atS hstep i o hi k (rhoS l a0 env i) w hk (fun _ => rfl) (fun _ => rfl) (fun t ht => by unfold freeB at ht; simp only [Nat.zero_add] at ht; simp only [rhoS]; cases hx : idxOf l t with | none => rfl | some j => rw [hx] at ht; simp only at ht ⊢; rw [if_pos ht]) hw (depsD_ofS hR rfl _ (fun e he hb => by have hok := okRegion_atS hR hi; unfold okOpS at hok; simp only [Bool.and_eq_true] at hok; have haf := hok.1.1.1.1; rw [Array.all_eq_true_iff_forall_mem] at haf; have := haf e (by simpa using he); simpa [dataB_binds hb] using this) hd)
    simp only [Nat.zero_add] at this
    exact this hg
  · unfold left
    have := List.countP_le_length (p := fun b : Bool => !b) (l := (Array.replicate l.toArray.size false).toList)
    simpa using this
  · cases idxOf l t with
    | none => rfl
    | some j => simp only [rep_false, Bool.false_eq_true, if_false]
  · intro i o _ hl
    have hx : (Array.replicate l.toArray.size false).getD i false = true := hl
    rw [rep_false] at hx; cases hx
  · intro j hj; rw [rep_false] at hj; cases hj
end
end Go.Proofs.Ytlfjnaeepblhiaa
