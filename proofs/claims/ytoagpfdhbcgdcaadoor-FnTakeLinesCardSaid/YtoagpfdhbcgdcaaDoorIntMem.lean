/- The contract of withoutAt at integers. -/
import Derived.Test.YtoagpfdhbcgdcaaDoorInbox
namespace Go.Proofs.YtoagpfdhbcgdcaaDoor
open Go.RowKit
set_option linter.unusedVariables false
theorem withoutAtInt_any (A : Option Addr) (n c k : Nat) (xs : List Int) (w : World) (h : Sl w A n c 1 (ints xs)) (hn : n ≤ 1000000) (hk : k < n) :
    Calls Tryd.prog 36 #[.slice A n c, .int .i64 k] w fun e w' => ∃ B d, e = .returned (.slice B (n - 1) d) ∧ w'.ownsRow w.heap.size 3 1 (.slice B (n - 1) d) (n - 1) (ints (xs.take k ++ xs.drop (k + 1))) ∧ Below w.heap.size w w' := by
  have hmx := h.max
  have hcx := h.cap
  unfold maxLen at hmx
  have hlx : xs.length = n := by have := h.len; simpa using this
  have s1 := h.sub0 (m := k) (by omega)
  rw [Nat.mul_one, ints_take] at s1
  have s2 := h.cut (k := k + 1) (K := k + 1) (by omega) (by omega)
  rw [show (ints xs).drop (k + 1) = ints (xs.drop (k + 1)) by simp [ints]] at s2
  have FA := hid (show ints (xs.take k ++ xs.drop (k + 1)) = ints (xs.take k) ++ ints (xs.drop (k + 1)) by simp [ints])
  obtain ⟨cs, hcs, hmk⟩ := make_run eltInt n (n : Int) rfl (by omega) (by omega)
  have O0 := own_made w cs 3 1 n w.heap.size rfl hcs (by unfold maxLen; omega)
  have b0 : Below w.heap.size w (w.alloc (.cells cs 3)) := (Below.refl _ _).alloc (Nat.le_refl _) _
  have h_lt := hid (show ints (xs.drop (k + 1)) ≠ [] → ∀ ad, (if c = k + 1 then A else A.map (fun x => x.add (k + 1))) = some ad → ad.block < w.heap.size from fun hv ad hA => by obtain ⟨ad', h1, h2⟩ := s2.see.lt hv; rw [hA] at h1; injection h1 with h1; subst h1; exact h2)
  have s1 := s1.below b0
  have s2 := s2.below b0
  have F0 := hid (And.intro s2 (And.intro b0 O0))
  clear O0 b0 s2 h hlx hcs
  go_enter Tryd.func36, Tryd.ntmps36
  go_wp2_with (first
    | (at_builtin; refine wpList_append_see _ rfl (.tmp 9) (.tmp 12) eltInt rfl w.heap.size (.slice (some ⟨w.heap.size, 0, none⟩) 0 n) 0 [] rfl F0.out.2.2 A k c (ints (xs.take k)) rfl s1.see (s1.of_none (by decide)) s1.len (ints_oneCell _ _) (by unfold maxLen; omega) (by omega) (by simp) ?_
       intro v1 w1 O1 g1 a1
       rw [Nat.zero_add, List.nil_append] at O1
       obtain ⟨s2, b0, O0⟩ := F0.out
       have b1 := b0.grown g1 b0.size (by rintro q hq; simp [Value.ownBlock] at hq; omega)
       have s2 := s2.grown g1 (by intro hv ad hA e; have h1 := (h_lt.out hv ad hA); simp [Value.ownBlock] at e; omega)
       have b1lt := hid b1.size
       clear b0 O0 g1 a1 F0 s1)
    | (at_builtin; refine wpList_append_see _ rfl (.tmp 14) (.tmp 18) eltInt rfl w.heap.size v1 _ _ rfl O1 _ _ _ (ints (xs.drop (k + 1))) rfl s2.see (s2.of_none (by decide)) s2.len (ints_oneCell _ _) (by unfold maxLen; omega) (by omega) b1lt.out ?_
       intro v3 w3 O3 g3 a3
       have b3 := b1.grown g3 b1.size (fun q hq => (O1.lt q hq).1)
       rw [← FA.out, show k + (n - (k + 1)) = n - 1 by omega] at O3
       obtain ⟨B, d, rfl, _⟩ := own_form O3
       clear g3 a3 s2 O1 b1))
  all_goals
    go_ret
    refine ⟨B, d, rfl, ?_, b3⟩
    rw [FA.out] at O3
    have H := O3
    simpa [ints] using H
end Go.Proofs.YtoagpfdhbcgdcaaDoor
