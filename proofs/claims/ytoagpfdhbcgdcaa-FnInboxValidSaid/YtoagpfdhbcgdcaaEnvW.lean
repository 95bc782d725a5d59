/- As Env, where operations may be guarded. -/
import Derived.Test.YtoagpfdhbcgdcaaEnv
namespace Go.Proofs.Ytoagpfdhbcgdcaa
open Go Go.RowKit
/-- The guard's operation is leaned on, and its slot is its own. -/
def okGuard (l : List Oper) (o : Oper) : Bool := match o.guard with
  | none => true
  | some (j, _) => (o.after.any fun e => e.on == j && Region.binds .any e) && (match (l[j]?).bind (·.dst) with
    | some t => idxOf l t == some j
    | none => false)
/-- Does the guard let it through? -/
def wantB (env : Nat → Value) (o : Oper) : Bool := match o.guard with
  | none => true
  | some (j, b) => match env j with
    | .bool c => c == b
    | _ => false
/-- What guards lean on never ends. -/
def okGuardLive (l : List Oper) (dead : Nat → Nat → Bool) : Bool := l.all fun o => match o.guard with
  | none => true
  | some (j, _) => (List.range l.length).all fun i => !dead i j
def GuardF (F : Nat → (Nat → Value) → World → Prop) (env : Nat → Value) (w : World) (o : Oper) : Prop := match o.guard with
  | none => True
  | some (j, _) => F j env w
/-- What an operation comes to, guarded or not. -/
def YieldW (P : Program) (o : Oper) (want : Bool) (ρ : Operand → Value) (w : World) (R : Value → World → Prop) : Prop := if want = true then Yield P o ρ w R else R undef w
def okOpW (l : List Oper) (n : Nat) (i : Nat) (o : Oper) : Bool :=
  (o.after.all fun e => !Region.binds .any e || decide (e.on < i)) && okGuard l o && !isSelect o.op &&
  (o.op.operands.all fun x => match x with
    | .tmp t => match idxOf l t with
      | some j => o.after.any fun e => e.on == j && Region.binds .any e
      | none => true
    | _ => true) &&
  (match o.dst with
    | some d => decide (d < n) && idxOf l d == some i
    | none => true)
def okRegionW (l : List Oper) (n : Nat) : Bool := (List.range l.length).all fun i => match l[i]? with
  | some o => okOpW l n i o
  | none => true

section
variable {P : Program} {l : List Oper} {a0 : Act} {W : Nat → World → Prop} {Tr : World → World → Prop} {F : Nat → Value → World → Prop}
theorem okRegion_atW {n i : Nat} {o : Oper} (h : okRegionW l n = true) (hi : l[i]? = some o) : okOpW l n i o = true := by
  unfold okRegionW at h
  have hlt : i < l.length := (List.getElem?_eq_some_iff.1 hi).1
  have := (List.all_eq_true.1 h) i (List.mem_range.2 hlt)
  simpa [hi] using this
theorem inv_evalW {L : Array Bool} {env : Nat → Value} {a : Act} {w : World} (h : Inv l a0 W F L env a w) {i : Nat} {o : Oper} (hR : okRegionW l a0.tmps.size = true) (hi : l[i]? = some o)
    (hdeps : ∀ e ∈ o.after.toList, Region.binds .any e = true → L.getD e.on false = true) : execOp a.eval o = execOp (rho l a0 env) o := by
  have hok := okRegion_atW hR hi
  unfold okOpW at hok
  simp only [Bool.and_eq_true] at hok
  obtain ⟨⟨⟨⟨_, _⟩, hsel⟩, hops⟩, _⟩ := hok
  refine execOp_congr o (fun cs b e => by rw [e] at hsel; simp [isSelect] at hsel) fun x hx => ?_
  rw [Array.all_eq_true_iff_forall_mem] at hops
  have hx' := hops x hx
  cases x with
  | tmp t =>
    simp only [Act.eval, rho]
    simp only at hx'
    rcases Nat.lt_or_ge t a0.tmps.size with ht | ht
    · have e := h.slots t ht
      have hta : t < a.tmps.size := by rw [h.size]; exact ht
      cases hj : idxOf l t with
      | none =>
        simp only [hj] at e
        simp only [Array.getD_eq_getD_getElem?, e]
      | some j =>
        simp only [hj] at e hx'
        have hl : L.getD j false = true := by
          simp only [Array.any_eq_true', Bool.and_eq_true, beq_iff_eq] at hx'
          obtain ⟨ed, hed, h1, h2⟩ := hx'
          rw [← h1]; exact hdeps ed (by simpa using hed) h2
        rw [hl, if_pos rfl] at e
        simp only [Array.getD_eq_getD_getElem?, e, Option.getD_some]
    · have hta : a.tmps.size ≤ t := by rw [h.size]; exact ht
      cases hj : idxOf l t with
      | none => simp only [Array.getD_eq_getD_getElem?, Array.getElem?_eq_none hta, Array.getElem?_eq_none ht]
      | some j =>
        obtain ⟨oj, h1, h2⟩ := idxOf_dst hj
        have hokj := okRegion_atW hR h1
        unfold okOpW at hokj
        rw [h2] at hokj
        have h3 : (decide (t < a0.tmps.size) && idxOf l t == some j) = true := (Bool.and_eq_true_iff.1 hokj).2
        exact absurd (of_decide_eq_true (Bool.and_eq_true_iff.1 h3).1) (Nat.not_lt.2 ht)
  | const v => rfl
  | global g => rfl
  | func f => rfl

theorem inv_stepW {L : Array Bool} {env : Nat → Value} {a : Act} {w w' : World} {i : Nat} {o : Oper} {v : Value} (h : Inv l a0 W F L env a w) (hR : okRegionW l a0.tmps.size = true) (hi : l[i]? = some o)
    (hst : ∀ i v, F i v w → F i v w') (hb : L.getD i true = false) (hF : F i v w') (hW : W (l.length - left L + 1) w') : Inv l a0 W F (L.setIfInBounds i true) (fun k => if k = i then v else env k) (a.put o.dst v) w' := by
  have hlt : i < l.length := (List.getElem?_eq_some_iff.1 hi).1
  have hiL : i < L.size := by rw [h.len]; exact hlt
  have hok := okRegion_atW hR hi
  unfold okOpW at hok
  simp only [Bool.and_eq_true] at hok
  have hdst := hok.2
  refine ⟨by simp [h.len], ?_, ?_, fun t ht => ?_, fun j hj => ?_, by have e1 := left_set hiL hb; have e2 := left_le h.len; rw [show l.length - left (L.setIfInBounds i true) = l.length - left L + 1 by omega]; exact hW⟩
  · cases hd : o.dst <;> simp [Act.put, h.size]
  · cases hd : o.dst <;> simp [Act.put, h.defers]
  · have e := h.slots t ht
    have hta : t < a.tmps.size := by rw [h.size]; exact ht
    cases hd : o.dst with
    | none =>
      simp only [Act.put, e]
      cases hj : idxOf l t with
      | none => rfl
      | some j =>
        simp only [getD_set hiL]
        have hne : j ≠ i := by
          rintro rfl
          obtain ⟨oj, h1, h2⟩ := idxOf_dst hj
          rw [hi] at h1; injection h1 with h1; subst h1; rw [hd] at h2; cases h2
        rw [if_neg hne, if_neg hne]
    | some d =>
      rw [hd] at hdst
      simp only [Bool.and_eq_true, decide_eq_true_eq, beq_iff_eq] at hdst
      simp only [Act.put, Array.getElem?_setIfInBounds]
      by_cases hdt : d = t
      · subst hdt
        rw [if_pos rfl, if_pos hta, hdst.2]
        simp only [getD_set hiL, if_true]
      · rw [if_neg hdt, e]
        cases hj : idxOf l t with
        | none => rfl
        | some j =>
          simp only [getD_set hiL]
          have hne : j ≠ i := by
            rintro rfl
            obtain ⟨oj, h1, h2⟩ := idxOf_dst hj
            rw [hi] at h1; injection h1 with h1; subst h1; rw [hd] at h2; injection h2 with h2; exact hdt h2
          rw [if_neg hne, if_neg hne]
  · rw [getD_set hiL] at hj
    by_cases e : j = i
    · subst e; simpa using hF
    · rw [if_neg e] at hj ⊢
      exact hst _ _ (h.facts j hj)

theorem all_listedW {L : Array Bool} (hlen : L.size = l.length) (hR : okRegionW l a0.tmps.size = true) (hr : Region.ready .any l.toArray L = []) : ∀ i, i < l.length → L.getD i false = true := by
  intro i
  induction i using Nat.strongRecOn with
  | ind i ih =>
    intro hi
    have ho : l[i]? = some l[i] := by simp
    have hok := okRegion_atW hR ho
    unfold okOpW at hok
    simp only [Bool.and_eq_true] at hok
    have haf := hok.1.1.1.1
    cases hb : L.getD i false with
    | true => rfl
    | false =>
      exfalso
      have hiL : i < L.size := by omega
      have hb' : L.getD i true = false := by
        simp only [Array.getD_eq_getD_getElem?, Array.getElem?_eq_getElem hiL, Option.getD_some] at hb ⊢; exact hb
      have : i ∈ Region.ready .any l.toArray L := by
        unfold Region.ready
        refine List.mem_filter.2 ⟨by simpa using hi, ?_⟩
        simp only [hb', Bool.not_false, Bool.true_and, List.getElem?_toArray, ho, Option.map_some, Option.getD_some]
        rw [Array.all_eq_true_iff_forall_mem] at haf ⊢
        intro e he
        have := haf e he
        cases hbe : Region.binds .any e with
        | false => simp
        | true =>
          simp only [hbe, Bool.not_true, Bool.false_or, decide_eq_true_eq] at this
          rw [ih e.on this (by omega)]
          simp
      rw [hr] at this
      cases this

theorem wanted_env {L : Array Bool} {env : Nat → Value} {a : Act} {w : World} (h : Inv l a0 W F L env a w) {i : Nat} {o : Oper} (hR : okRegionW l a0.tmps.size = true) (hi : l[i]? = some o)
    (hdeps : ∀ e ∈ o.after.toList, Region.binds .any e = true → L.getD e.on false = true) : Region.wanted o (yielded l.toArray a.tmps) = wantB env o := by
  have hok := okRegion_atW hR hi
  unfold okOpW at hok
  simp only [Bool.and_eq_true] at hok
  have hg := hok.1.1.1.2
  unfold okGuard at hg
  unfold Region.wanted wantB
  cases hgd : o.guard with
  | none => rfl
  | some p =>
    obtain ⟨j, b⟩ := p
    rw [hgd] at hg
    simp only [Bool.and_eq_true, Array.any_eq_true', beq_iff_eq] at hg
    obtain ⟨⟨ed, hed, h1, h2⟩, h3⟩ := hg
    cases hd : (l[j]?).bind (·.dst) with
    | none => rw [hd] at h3; cases h3
    | some t =>
      rw [hd] at h3
      have h3 : idxOf l t = some j := by simpa using h3
      have hl : L.getD j false = true := by rw [← h1]; exact hdeps ed (by simpa using hed) h2
      have ht : t < a0.tmps.size := by
        obtain ⟨oj, hj, hdj⟩ := idxOf_dst h3
        have hokj := okRegion_atW hR hj
        unfold okOpW at hokj
        rw [hdj] at hokj
        simp only [Bool.and_eq_true, decide_eq_true_eq] at hokj
        exact hokj.2.1
      have e := h.slots t ht
      simp only [h3] at e
      rw [hl, if_pos rfl] at e
      have hy : yielded l.toArray a.tmps j = match env j with | .bool c => some c | _ => none := by
        unfold yielded
        simp only [List.getElem?_toArray, hd, Option.bind_some, e]
        cases env j <;> rfl
      simp only [hy]
      cases env j <;> rfl
end
section
variable {P : Program} {l : List Oper} {a0 : Act} {W : Nat → World → Prop} {Tr : Nat → World → World → Prop} {F : Nat → (Nat → Value) → World → Prop} {dead : Nat → Nat → Bool}
theorem any_of_envw {Q : Exit → Act → World → Prop} (hR : okRegionW l a0.tmps.size = true) (hD : okDead l dead = true) (hGL : okGuardLive l dead = true)
    (hcg : ∀ j env env' w, j < l.length → (∀ i, (i = j ∨ ancB l l.length j i = true) → env i = env' i) → F j env w → F j env' w)
    (hst : ∀ i j k env w w', i < l.length → j < l.length → i ≠ j → dead i j = false → ancB l l.length j i = false → W k w → Tr i w w' → F j env w → F j env w')
    (hstep : ∀ i o, l[i]? = some o → ∀ k env w, k < l.length → W k w → (∀ e ∈ o.after.toList, dataB e = true → F e.on env w) → GuardF F env w o → YieldW P o (wantB env o) (rho l a0 env) w (fun v w' => F i (upd env i v) w' ∧ W (k + 1) w' ∧ Tr i w w'))
    (hfin : ∀ env w, W l.length w → (∀ j, j < l.length → (∀ i, i < l.length → dead i j = false) → F j env w) → Q .normal (after l a0 env) w) :
    ∀ (fuel : Nat) (L : Array Bool) (env : Nat → Value) (a : Act) (w : World), left L ≤ fuel → Inv0 l a0 W L env a w → Closed l (fun i => L.getD i false) →
      (∀ j, L.getD j false = true → Alive dead (fun i => L.getD i false) j → F j env w) → wpAny P .any l.toArray Q fuel L a w := by
  intro fuel
  induction fuel with
  | zero =>
    intro L env a w hf h hc hF
    have hall : ∀ i, i < l.length → L.getD i false = true := fun i hi => left_zero (by omega) i (by rw [h.len]; exact hi)
    refine ⟨?_, ?_⟩
    · unfold Region.ready
      rw [List.filter_eq_nil_iff]
      intro i hi
      have hi' : i < l.length := by simpa using hi
      have hiL : i < L.size := by rw [h.len]; exact hi'
      have := hall i hi'
      simp only [Array.getD_eq_getD_getElem?, Array.getElem?_eq_getElem hiL, Option.getD_some] at this ⊢
      simp [this]
    · rw [inv_after h hall]
      exact hfin env w (by have := h.world; rwa [left_none h.len hall, Nat.sub_zero] at this) (fun j hj hd => hF j (hall j hj) (fun i hi => hd i (by have := getD_true_lt hi; rwa [h.len] at this)))
  | succ fuel ih =>
    intro L env a w hf h hc hF
    refine ⟨fun hr => ?_, fun i hi => ?_⟩
    · have hall := all_listedW h.len hR hr
      rw [inv_after h hall]
      exact hfin env w (by have := h.world; rwa [left_none h.len hall, Nat.sub_zero] at this) (fun j hj hd => hF j (hall j hj) (fun i hi => hd i (by have := getD_true_lt hi; rwa [h.len] at this)))
    · unfold Region.ready at hi
      obtain ⟨h1, h2⟩ := List.mem_filter.1 hi
      have hi' : i < l.length := by simpa using h1
      have ho : l[i]? = some l[i] := by simp
      simp only [List.getElem?_toArray, ho, Option.map_some, Option.getD_some, Bool.and_eq_true, Bool.not_eq_true'] at h2
      obtain ⟨hb, hdep⟩ := h2
      have hdeps : ∀ e ∈ l[i].after.toList, Region.binds .any e = true → L.getD e.on false = true := by
        intro e he hbe
        rw [Array.all_eq_true_iff_forall_mem] at hdep
        have := hdep e (by simpa using he)
        simpa [hbe] using this
      have hiL : i < L.size := by rw [h.len]; exact hi'
      have hbF : L.getD i false = false := by
        simp only [Array.getD_eq_getD_getElem?, Array.getElem?_eq_getElem hiL, Option.getD_some] at hb ⊢; exact hb
      have hok := okRegion_atW hR ho
      unfold okOpW at hok
      simp only [Bool.and_eq_true] at hok
      have hgd := wanted_env h hR ho hdeps
      have hlt := left_set hiL hb
      have hle := left_le h.len
      have halive : ∀ e ∈ l[i].after.toList, dataB e = true → F e.on env w := by
        intro e he hbd
        have hbe := dataB_binds hbd
        refine hF _ (hdeps e he hbe) fun i' hi'' => ?_
        cases hdd : dead i' e.on with
        | false => rfl
        | true =>
          exfalso
          have hl' : i' < l.length := by have := getD_true_lt hi''; rwa [h.len] at this
          have hj' : e.on < l.length := by have := getD_true_lt (hdeps e he hbe); rwa [h.len] at this
          rcases okDead_at hD hl' hj' hdd ho he hbd rfl with rfl | ha
          · have hx : L.getD _ false = true := hi''
            rw [hbF] at hx; cases hx
          · have hx : L.getD i false = true := closed_anc hc _ _ _ ha hi''
            rw [hbF] at hx; cases hx
      have hgf : GuardF F env w l[i] := by
        unfold GuardF
        cases hgq : l[i].guard with
        | none => trivial
        | some p =>
          obtain ⟨j, b⟩ := p
          have hog := hok.1.1.1.2
          unfold okGuard at hog
          rw [hgq] at hog
          simp only [Bool.and_eq_true, Array.any_eq_true', beq_iff_eq] at hog
          obtain ⟨⟨ed, hed, h1', h2'⟩, _⟩ := hog
          have hjl : L.getD j false = true := by rw [← h1']; exact hdeps ed (by simpa using hed) h2'
          refine hF j hjl fun i' hi'' => ?_
          have hl' : i' < l.length := by have := getD_true_lt hi''; rwa [h.len] at this
          unfold okGuardLive at hGL
          have hx := (List.all_eq_true.1 hGL) l[i] (List.mem_of_getElem? ho)
          rw [hgq] at hx
          have hx2 := (List.all_eq_true.1 hx) i' (List.mem_range.2 hl')
          simpa using hx2
      have hy := hstep i l[i] ho _ env w (by omega) h.world halive hgf
      have goal : ∀ v w', F i (upd env i v) w' ∧ W (l.length - left L + 1) w' ∧ Tr i w w' → wpAny P .any l.toArray Q fuel (L.setIfInBounds i true) (a.put l[i].dst v) w' := fun v w' hv => ?_
      · unfold wpOp
        simp only [List.getElem?_toArray, ho]
        rw [hgd]
        unfold YieldW at hy
        cases hwt : wantB env l[i] with
        | true =>
          rw [hwt] at hy
          have hy' : Yield P l[i] a.eval w (fun v w' => F i (upd env i v) w' ∧ W (l.length - left L + 1) w' ∧ Tr i w w') := by
            simp only [if_true] at hy
            unfold Yield at hy ⊢
            rw [inv_evalW h hR ho hdeps]; exact hy
          rw [if_pos rfl]
          exact .inl (wp_of_yield hy' goal)
        | false =>
          rw [hwt] at hy
          rw [if_neg (by simp)]
          simp only [Bool.false_eq_true, if_false] at hy
          exact goal _ _ hy
      refine (ih (L.setIfInBounds i true) (upd env i v) _ _ (by omega) (inv_stepW h hR ho (fun _ _ _ => trivial) hb trivial hv.2.1) ?_ ?_)
      · intro i' o' ho' hl' e he hbe
        simp only [getD_set hiL] at hl' ⊢
        by_cases ei : e.on = i
        · rw [if_pos ei]
        · rw [if_neg ei]
          by_cases e2 : i' = i
          · subst e2
            rw [ho] at ho'; injection ho' with ho'; subst ho'
            exact hdeps e he hbe
          · rw [if_neg e2] at hl'
            exact hc i' o' ho' hl' e he hbe
      · intro j hj hal
        rw [getD_set hiL] at hj
        by_cases e2 : j = i
        · subst e2; exact hv.1
        · rw [if_neg e2] at hj
          have hjl : j < l.length := by have := getD_true_lt hj; rwa [h.len] at this
          have hanc : ancB l l.length j i = false := by
            cases hx : ancB l l.length j i with
            | false => rfl
            | true =>
              have hy : L.getD i false = true := closed_anc hc _ _ _ hx hj
              rw [hbF] at hy; cases hy
          refine hcg j env _ _ hjl (fun q hq => ?_) ?_
          · refine (upd_other env v fun e => ?_).symm
            subst e
            rcases hq with hq | hq
            · exact e2 hq.symm
            · rw [hanc] at hq; cases hq
          · refine hst i j _ env _ _ hi' hjl (fun e => e2 e.symm) (hal i (by simp only [getD_set hiL]; simp)) hanc h.world hv.2.2 (hF j hj fun i' hi'' => hal i' ?_)
            simp only [getD_set hiL]
            by_cases e3 : i' = i
            · rw [if_pos e3]
            · rw [if_neg e3]; exact hi''
/-- Each operation, walked once. -/
def StepsEW (P : Program) (l : List Oper) (a0 : Act) (W : Nat → World → Prop) (Tr : Nat → World → World → Prop) (F : Nat → (Nat → Value) → World → Prop) : Nat → List Oper → Prop
  | _, [] => True
  | i, o :: rest => (∀ (k : Nat) (ρ : Operand → Value) (env : Nat → Value) (w : World), k < l.length → (∀ v, ρ (.const v) = v) → (∀ f, ρ (.func f) = .func (.func f) #[] #[]) → (∀ g, ρ (.global g) = .pointer (some ⟨g, 0, none⟩)) → (∀ t, ρ (.tmp t) = match idxOf l t with | some j => env j | none => a0.tmps.getD t undef) → W k w →
      DepsE l F env w o.after.toList → GuardF F env w o → YieldW P o (wantB env o) ρ w (fun v w' => F i (upd env i v) w' ∧ W (k + 1) w' ∧ Tr i w w')) ∧ StepsEW P l a0 W Tr F (i + 1) rest
theorem stepsEW_at {ls : List Oper} {m : Nat} (h : StepsEW P l a0 W Tr F m ls) : ∀ (j : Nat) (o : Oper), ls[j]? = some o →
    (∀ (k : Nat) (ρ : Operand → Value) (env : Nat → Value) (w : World), k < l.length → (∀ v, ρ (.const v) = v) → (∀ f, ρ (.func f) = .func (.func f) #[] #[]) → (∀ g, ρ (.global g) = .pointer (some ⟨g, 0, none⟩)) → (∀ t, ρ (.tmp t) = match idxOf l t with | some j => env j | none => a0.tmps.getD t undef) → W k w →
      DepsE l F env w o.after.toList → GuardF F env w o → YieldW P o (wantB env o) ρ w (fun v w' => F (m + j) (upd env (m + j) v) w' ∧ W (k + 1) w' ∧ Tr (m + j) w w')) := by
  induction ls generalizing m with
  | nil => intro j o h; simp at h
  | cons x xs ih =>
    intro j o hj
    cases j with
    | zero => simp at hj; subst hj; exact h.1
    | succ j =>
      have := ih h.2 j o (by simpa using hj)
      rw [show m + (j + 1) = m + 1 + j by omega]
      exact this
/-- The law. -/
theorem wp_region_envw {id : Nat} {Q : Exit → Act → World → Prop} {w : World} (hm : P.follows .mixedOrders = true) (hR : okRegionW l a0.tmps.size = true) (hD : okDead l dead = true) (hGL : okGuardLive l dead = true) (hW : W 0 w.drew)
    (hcg : ∀ j env env' w, j < l.length → (∀ i, (i = j ∨ ancB l l.length j i = true) → env i = env' i) → F j env w → F j env' w)
    (hst : ∀ i j k env w w', i < l.length → j < l.length → i ≠ j → dead i j = false → ancB l l.length j i = false → W k w → Tr i w w' → F j env w → F j env w') (hstep : StepsEW P l a0 W Tr F 0 l)
    (hfin : ∀ env w, W l.length w → (∀ j, j < l.length → (∀ i, i < l.length → dead i j = false) → F j env w) → Q .normal (after l a0 env) w) : (Code.region id l.toArray true).wp P Q a0 w := by
  refine wp_region_any hm ?_
  refine any_of_envw hR hD hGL hcg hst (fun i o hi k env w hk hw hd hgf => ?_) hfin _ _ (fun _ => undef) a0 _ ?_ ⟨by simp, rfl, rfl, fun t ht => ?_, fun i hi => trivial, by rw [left_rep]; simpa using hW⟩ ?_ ?_
  · have := stepsEW_at hstep i o hi k (rho l a0 env) env w hk (fun _ => rfl) (fun _ => rfl) (fun _ => rfl) (fun t => rfl) hw (depsE_of _ hd)
    simp only [Nat.zero_add] at this
    exact this hgf
  · unfold left
    have := List.countP_le_length (p := fun b : Bool => !b) (l := (Array.replicate l.toArray.size false).toList)
    simpa using this
  · cases idxOf l t with
    | none => rfl
    | some j => simp only [rep_false, Bool.false_eq_true, if_false]
  · intro i o _ hl
    have hx : (Array.replicate l.toArray.size false).getD i false = true := hl
    rw [rep_false] at hx; cases hx
  · intro j hj; rw [rep_false] at hj; cases hj
end
theorem yieldW_on {P : Program} {o : Oper} {want : Bool} {ρ : Operand → Value} {w : World} {R : Value → World → Prop} (h : want = true) (hy : Yield P o ρ w R) : YieldW P o want ρ w R := by
  unfold YieldW; rw [if_pos h]; exact hy
theorem yieldW_off {P : Program} {o : Oper} {want : Bool} {ρ : Operand → Value} {w : World} {R : Value → World → Prop} (h : want = false) (hr : R undef w) : YieldW P o want ρ w R := by
  unfold YieldW; rw [if_neg (by rw [h]; simp)]; exact hr
end Go.Proofs.Ytoagpfdhbcgdcaa
