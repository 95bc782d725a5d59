/- A region that draws its order, with facts that end, and a fact on the world that holds until one of its operations comes up. -/
import Derived.Test.YtlfjnaeepblhiaaLive
namespace Go.Proofs.Ytlfjnaeepblhiaa
open Go Go.RowKit
section
variable {P : Program} {l : List Oper} {a0 : Act} {W : Nat → World → Prop} {Tr : Nat → World → World → Prop} {F : Nat → Value → World → Prop} {dead : Nat → Nat → Bool} {d : Nat} {G : World → Prop}
theorem any_of_ghost {Q : Exit → Act → World → Prop} (hR : okRegion l a0.tmps.size = true) (hD : okDead l dead = true)
    (hG1 : ∀ i k w w', i < l.length → i ≠ d → W k w → Tr i w w' → G w → G w')
    (hst : ∀ i j k w w' v, i < l.length → j < l.length → i ≠ j → dead i j = false → ancB l l.length j i = false → W k w → Tr i w w' → F j v w → F j v w')
    (hstep : ∀ i o, l[i]? = some o → ∀ k env w, k < l.length → W k w → (∀ e ∈ o.after.toList, dataB e = true → F e.on (env e.on) w) → ((i == d || ancB l l.length d i) = true → G w) → Yield P o (rho l a0 env) w (fun v w' => F i v w' ∧ W (k + 1) w' ∧ Tr i w w'))
    (hfin : ∀ env w, W l.length w → (∀ j, j < l.length → (∀ i, i < l.length → dead i j = false) → F j (env j) w) → Q .normal (after l a0 env) w) :
    ∀ (fuel : Nat) (L : Array Bool) (env : Nat → Value) (a : Act) (w : World), left L ≤ fuel → Inv0 l a0 W L env a w → Closed l (fun i => L.getD i false) →
      (∀ j, L.getD j false = true → Alive dead (fun i => L.getD i false) j → F j (env j) w) → (L.getD d false = false → G w) → wpAny P .any l.toArray Q fuel L a w := by
  intro fuel
  induction fuel with
  | zero =>
    intro L env a w hf h hc hF hG
    have hall : ∀ i, i < l.length → L.getD i false = true := fun i hi => left_zero (by omega) i (by rw [h.len]; exact hi)
    refine ⟨?_, ?_⟩
    · unfold Region.ready
      rw [List.filter_eq_nil_iff]
      intro i hi
      have hi' : i < l.length := by simpa using hi
      have hiL : i < L.size := by rw [h.len]; exact hi'
      have := hall i hi'
      simp only [Array.getD_eq_getD_getElem?, Array.getElem?_eq_getElem hiL, Option.getD_some] at this ⊢
      simp [this]
    · rw [inv_after h hall]
      exact hfin env w (by have := h.world; rwa [left_none h.len hall, Nat.sub_zero] at this) (fun j hj hd => hF j (hall j hj) (fun i hi => hd i (by have := getD_true_lt hi; rwa [h.len] at this)))
  | succ fuel ih =>
    intro L env a w hf h hc hF hG
    refine ⟨fun hr => ?_, fun i hi => ?_⟩
    · have hall := all_listed h.len hR hr
      rw [inv_after h hall]
      exact hfin env w (by have := h.world; rwa [left_none h.len hall, Nat.sub_zero] at this) (fun j hj hd => hF j (hall j hj) (fun i hi => hd i (by have := getD_true_lt hi; rwa [h.len] at this)))
    · unfold Region.ready at hi
      obtain ⟨h1, h2⟩ := List.mem_filter.1 hi
      have hi' : i < l.length := by simpa using h1
      have ho : l[i]? = some l[i] := by simp
      simp only [List.getElem?_toArray, ho, Option.map_some, Option.getD_some, Bool.and_eq_true, Bool.not_eq_true'] at h2
      obtain ⟨hb, hdep⟩ := h2
      have hdeps : ∀ e ∈ l[i].after.toList, Region.binds .any e = true → L.getD e.on false = true := by
        intro e he hbe
        rw [Array.all_eq_true_iff_forall_mem] at hdep
        have := hdep e (by simpa using he)
        simpa [hbe] using this
      have hiL : i < L.size := by rw [h.len]; exact hi'
      have hbF : L.getD i false = false := by
        simp only [Array.getD_eq_getD_getElem?, Array.getElem?_eq_getElem hiL, Option.getD_some] at hb ⊢; exact hb
      have hok := okRegion_at hR ho
      unfold okOp at hok
      simp only [Bool.and_eq_true] at hok
      have hgd : l[i].guard = none := by simpa using hok.1.1.1.2
      have hlt := left_set hiL hb
      have hle := left_le h.len
      have halive : ∀ e ∈ l[i].after.toList, dataB e = true → F e.on (env e.on) w := by
        intro e he hbd
        have hbe := dataB_binds hbd
        refine hF _ (hdeps e he hbe) fun i' hi'' => ?_
        cases hdd : dead i' e.on with
        | false => rfl
        | true =>
          exfalso
          have hl' : i' < l.length := by have := getD_true_lt hi''; rwa [h.len] at this
          have hj' : e.on < l.length := by have := getD_true_lt (hdeps e he hbe); rwa [h.len] at this
          rcases okDead_at hD hl' hj' hdd ho he hbd rfl with rfl | ha
          · have hx : L.getD _ false = true := hi''
            rw [hbF] at hx; cases hx
          · have hx : L.getD i false = true := closed_anc hc _ _ _ ha hi''
            rw [hbF] at hx; cases hx
      have hgh : (i == d || ancB l l.length d i) = true → G w := fun he => hG (by
        cases hx : L.getD d false with
        | false => rfl
        | true =>
          exfalso
          simp only [Bool.or_eq_true, beq_iff_eq] at he
          rcases he with rfl | he
          · rw [hbF] at hx; cases hx
          · have hx : L.getD i false = true := closed_anc hc _ _ _ he hx
            rw [hbF] at hx; cases hx)
      have hy := hstep i l[i] ho _ env w (by omega) h.world halive hgh
      have hy' : Yield P l[i] a.eval w (fun v w' => F i v w' ∧ W (l.length - left L + 1) w' ∧ Tr i w w') := by
        unfold Yield at hy ⊢
        rw [inv_eval h hR ho hdeps]; exact hy
      unfold wpOp
      simp only [List.getElem?_toArray, ho]
      rw [if_pos (by simp [Region.wanted, hgd])]
      refine .inl (wp_of_yield hy' fun v w' hv => ih (L.setIfInBounds i true) (fun k => if k = i then v else env k) _ _ (by omega) (inv_step h hR ho (fun _ _ _ => trivial) hb trivial hv.2.1) ?_ ?_ ?_)
      · intro i' o' ho' hl' e he hbe
        simp only [getD_set hiL] at hl' ⊢
        by_cases ei : e.on = i
        · rw [if_pos ei]
        · rw [if_neg ei]
          by_cases e2 : i' = i
          · subst e2
            rw [ho] at ho'; injection ho' with ho'; subst ho'
            exact hdeps e he hbe
          · rw [if_neg e2] at hl'
            exact hc i' o' ho' hl' e he hbe
      · intro j hj hal
        rw [getD_set hiL] at hj
        by_cases e2 : j = i
        · subst e2; simpa using hv.1
        · rw [if_neg e2] at hj
          simp only [e2, if_false]
          have hjl : j < l.length := by have := getD_true_lt hj; rwa [h.len] at this
          have hanc : ancB l l.length j i = false := by
            cases hx : ancB l l.length j i with
            | false => rfl
            | true =>
              have hy : L.getD i false = true := closed_anc hc _ _ _ hx hj
              rw [hbF] at hy; cases hy
          refine hst i j _ _ _ _ hi' hjl (fun e => e2 e.symm) (hal i (by simp only [getD_set hiL]; simp)) hanc h.world hv.2.2 (hF j hj fun i' hi'' => hal i' ?_)
          simp only [getD_set hiL]
          by_cases e3 : i' = i
          · rw [if_pos e3]
          · rw [if_neg e3]; exact hi''
      · intro hx
        rw [getD_set hiL] at hx
        by_cases e2 : d = i
        · rw [if_pos e2] at hx; cases hx
        · rw [if_neg e2] at hx
          exact hG1 i _ _ _ hi' (fun e => e2 e.symm) h.world hv.2.2 (hG hx)
/-- Each operation, walked once. -/
def StepsG (P : Program) (l : List Oper) (a0 : Act) (W : Nat → World → Prop) (Tr : Nat → World → World → Prop) (F : Nat → Value → World → Prop) (d : Nat) (G : World → Prop) : Nat → List Oper → Prop
  | _, [] => True
  | i, o :: rest => (∀ (k : Nat) (ρ : Operand → Value) (w : World), k < l.length → (∀ v, ρ (.const v) = v) → (∀ f, ρ (.func f) = .func (.func f) #[] #[]) → (∀ t, idxOf l t = none → ρ (.tmp t) = a0.tmps.getD t undef) → W k w →
      DepsD l F ρ w o.after.toList → ((i == d || ancB l l.length d i) = true → G w) → Yield P o ρ w (fun v w' => F i v w' ∧ W (k + 1) w' ∧ Tr i w w')) ∧ StepsG P l a0 W Tr F d G (i + 1) rest
theorem stepsG_at {ls : List Oper} {m : Nat} (h : StepsG P l a0 W Tr F d G m ls) : ∀ (j : Nat) (o : Oper), ls[j]? = some o →
    (∀ (k : Nat) (ρ : Operand → Value) (w : World), k < l.length → (∀ v, ρ (.const v) = v) → (∀ f, ρ (.func f) = .func (.func f) #[] #[]) → (∀ t, idxOf l t = none → ρ (.tmp t) = a0.tmps.getD t undef) → W k w →
      DepsD l F ρ w o.after.toList → ((m + j == d || ancB l l.length d (m + j)) = true → G w) → Yield P o ρ w (fun v w' => F (m + j) v w' ∧ W (k + 1) w' ∧ Tr (m + j) w w')) := by
  induction ls generalizing m with
  | nil => intro j o h; simp at h
  | cons x xs ih =>
    intro j o hj
    cases j with
    | zero => simp at hj; subst hj; exact h.1
    | succ j =>
      have := ih h.2 j o (by simpa using hj)
      rw [show m + (j + 1) = m + 1 + j by omega]
      exact this
/-- The law. -/
theorem wp_region_ghost {id : Nat} {Q : Exit → Act → World → Prop} {w : World} (hm : P.follows .mixedOrders = true) (hR : okRegion l a0.tmps.size = true) (hD : okDead l dead = true) (hW : W 0 w.drew) (hG : G w.drew) (hG1 : ∀ i k w w', i < l.length → i ≠ d → W k w → Tr i w w' → G w → G w')
    (hst : ∀ i j k w w' v, i < l.length → j < l.length → i ≠ j → dead i j = false → ancB l l.length j i = false → W k w → Tr i w w' → F j v w → F j v w') (hstep : StepsG P l a0 W Tr F d G 0 l)
    (hfin : ∀ env w, W l.length w → (∀ j, j < l.length → (∀ i, i < l.length → dead i j = false) → F j (env j) w) → Q .normal (after l a0 env) w) : (Code.region id l.toArray true).wp P Q a0 w := by
  refine wp_region_any hm ?_
  refine any_of_ghost hR hD hG1 hst (fun i o hi k env w hk hw hd hg => ?_) hfin _ _ (fun _ => undef) a0 _ ?_ ⟨by simp, rfl, rfl, fun t ht => ?_, fun i hi => trivial, by rw [left_rep]; simpa using hW⟩ ?_ ?_ (fun _ => hG)
  · have := stepsG_at hstep i o hi k (rho l a0 env) w hk (fun _ => rfl) (fun _ => rfl) (fun t ht => by simp only [rho, ht]) hw (depsD_of hR rfl _ hd)
    simp only [Nat.zero_add] at this
    exact this hg
  · unfold left
    have := List.countP_le_length (p := fun b : Bool => !b) (l := (Array.replicate l.toArray.size false).toList)
    simpa using this
  · cases idxOf l t with
    | none => rfl
    | some j => simp only [rep_false, Bool.false_eq_true, if_false]
  · intro i o _ hl
    have hx : (Array.replicate l.toArray.size false).getD i false = true := hl
    rw [rep_false] at hx; cases hx
  · intro j hj; rw [rep_false] at hj; cases hj
end
end Go.Proofs.Ytlfjnaeepblhiaa
