/- The contracts of the program's lists in new memory: String. -/
import Derived.Test.YtlfjnaeepblhiaaStrings
import Derived.Test.YtlfjnaeepblhiaaMem
namespace Go.Proofs.Ytlfjnaeepblhiaa
open Go.RowKit
set_option linter.unusedVariables false
theorem stC_one (x : St) : ∀ u ∈ stC x, u.oneCell' = true := by intro u hu; simp [stC] at hu; rcases hu with rfl <;> rfl
theorem copyString_any (A : Option Addr) (n c : Nat) (xs : List St) (w : World) (h : Sl w A n c 1 (sts xs)) (hn : n ≤ 1048576) :
    Calls Try.prog 52 #[.slice A n c] w fun e w' => ∃ B d, e = .returned (.slice B n d) ∧ w'.ownsRow w.heap.size 9 1 (.slice B n d) n (sts xs) ∧ Below w.heap.size w w' := by
  go_enter Try.func52, Try.ntmps52
  go_wp2_with (at_builtin; refine wpList_append_see _ rfl _ _ eltString rfl w.heap.size (.slice none 0 0) 0 [] rfl (World.ownsRow_nil _ _ _ _) A n c (sts xs) rfl h.see (h.of_none (by decide)) h.len (flat_one stC_one _) (by unfold maxLen; omega) (by omega) (Nat.le_refl _) ?_; intro v1 w1 hown hg hat)
  rw [Nat.zero_add, List.nil_append] at hown
  have hb : Below w.heap.size w w1 := below_of_grown hg (Nat.le_refl _) (by simp [Value.ownBlock])
  obtain ⟨B, d, rfl, _⟩ := own_form hown
  have R := hid (And.intro hown hb)
  clear hown hb hg hat
  go_wp2
  go_ret
  exact ⟨B, d, rfl, R.out⟩
end Go.Proofs.Ytlfjnaeepblhiaa
