/- append in a region that draws its order. -/
import Derived.Test.YtlfjnaeepblhiaaLive
import Derived.Test.YtlfjnaeepblhiaaMem
namespace Go.Proofs.Ytlfjnaeepblhiaa
open Go.RowKit
set_option linter.unusedVariables false
theorem yield_append {P : Program} {w : World} {o : Oper} {ρ : Operand → Value} {R : Value → World → Prop} (s x : Operand) {t e : TypeId} {size bytes : Nat} (E : Elt P t e size bytes)
    (ho : o.op = .call { callee := .builtin .append, args := #[s, x], argTypes := #[t, t] })
    (base : Nat) (v : Value) (n : Nat) (xs : List Value) (hs : ρ s = v) (hown : w.ownsRow base e size v n xs)
    (A : Option Addr) (m c : Nat) (news : List Value) (hx : ρ x = .slice A m c) (hsee : See w A news) (hA : A = none → m = 0) (hl : news.length = m * size) (h1 : ∀ u ∈ news, u.oneCell' = true)
    (h63 : n + m ≤ maxLen) (hbytes : (n + m) * bytes ≤ 140737488355328) (hbase : base ≤ w.heap.size)
    (h : ∀ v' w', w'.ownsRow base e size v' (n + m) (xs ++ news) → w.grownBy w' v.ownBlock → (v'.ownBlock = v.ownBlock ∨ v'.ownBlock = some w.heap.size) → R v' w') : Yield P o ρ w R := by
  obtain ⟨v', w', hrun, h2, h3, h4⟩ := run_append_see (P := P) w E o.type base v n xs hown A m c news hsee hA hl h1 h63 hbytes hbase
  unfold Yield execOp
  simp only [ho, resolve, invoke, builtin, Sem.run_bind, Sem.run_pure, Result.andThen_ok, List.map_toArray, List.map_cons, List.map_nil, hs, hx, hrun]
  exact h v' w' h2 h3 h4
theorem own_lit0 {w : World} {g base : Nat} {T : TypeId} {size : Nat} (hB : base ≤ g) (h : w.heap[g]? = some (.cells #[] T (0, 0))) : w.ownsRow base T size (.slice (some ⟨g, 0, none⟩) 0 0) 0 [] :=
  ⟨by simp, .inr ⟨g, 0, #[], rfl, hB, h, Nat.le_refl _, Nat.zero_le _, by simp, by simp⟩⟩
theorem see_lit {w : World} {g : Nat} {T : TypeId} {cs : List Value} (h : w.heap[g]? = some (.cells cs.toArray T (0, 0))) : See w (some ⟨g, 0, none⟩) cs :=
  .inr ⟨_, rfl, fun j u hu => by rw [addr_own, cell_of_row _ _ _ _ _ _ h]; simpa using hu⟩
end Go.Proofs.Ytlfjnaeepblhiaa
