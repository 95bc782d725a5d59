/- What the listed table of the kinds' words gives the walks; a world that has it. -/
import Derived.Test.YtoagpfdhbcgdcaaDoorRows
import Derived.Test.YtoagpfdhbcgdcaaDoorG2
import Derived.ProofKit
import Derived.LaidMore
import Derived.OpenShut
import Derived.MakeChecks
import Derived.Stop.Joined
namespace Go.Proofs.YtoagpfdhbcgdcaaDoor
open Go.RowKit Go.ChangeShapes Go.WideShapes Go.ChangeAt Go.WideElems
set_option linter.unusedVariables false
set_option maxRecDepth 8000
theorem gKinds : Tryd.prog.globalNamed "loop.example/feedbridge/impl.kindWords" = some 0 := by kernel_rfl
theorem tKinds : (Tryd.prog.globals[0]?).map (·.type) = some 94 := by kernel_rfl
theorem str_of {s : ByteArray} {L : List UInt8} (h : (DataW.lit (H := Unit) (.string s.data.toList)) = .lit (.string L)) : s = ⟨L.toArray⟩ := by
  injection h with h
  injection h with h
  subst h
  simp
/-- One variable's datum, opened. -/
theorem kw_of {W : World} {fuel : Nat} {cs : Array Value} {p : List MemPlace} (hv : W.var? Tryd.prog "loop.example/feedbridge/impl.kindWords" = some cs) {enc : TypeId × Value → Unit} {base : Nat} {sp : Nat → Bool} {held : Bool}
    (hd : DataW.trod enc Tryd.prog W base sp held fuel 94 cs.toList = some (Rows.laid_loop_example_feedbridge_impl_kindWords, p)) : KW W := by
  obtain ⟨xs, m1, rfl, hx1, hlen, hn3, hel⟩ := DataW.trod_array Tryd.underlying94 hd
  have c9 : Tryd.prog.cellsOf 9 = 1 := by kernel_rfl
  have c94 : Tryd.prog.cellsOf 94 = 6 := by kernel_rfl
  simp only [c9, Nat.mul_one] at hel
  rw [c94] at hlen
  simp only [Prod.mk.injEq] at hx1
  have cell := World.var?_cell gKinds hv
  match xs, hn3, hx1, hel with
  | [x0, x1, x2, x3, x4, x5], _, hx1, hel =>
    have h0 := hel 0 (by decide)
    have h1 := hel 1 (by decide)
    have h2 := hel 2 (by decide)
    have h3 := hel 3 (by decide)
    have h4 := hel 4 (by decide)
    have h5 := hel 5 (by decide)
    obtain ⟨s0, e0, q0, _⟩ := DataW.trod_string Tryd.underlying9 (show DataW.trod _ Tryd.prog W _ _ _ m1 9 _ = some x0 from h0)
    obtain ⟨s1, e1, q1, _⟩ := DataW.trod_string Tryd.underlying9 (show DataW.trod _ Tryd.prog W _ _ _ m1 9 _ = some x1 from h1)
    obtain ⟨s2, e2, q2, _⟩ := DataW.trod_string Tryd.underlying9 (show DataW.trod _ Tryd.prog W _ _ _ m1 9 _ = some x2 from h2)
    obtain ⟨s3, e3, q3, _⟩ := DataW.trod_string Tryd.underlying9 (show DataW.trod _ Tryd.prog W _ _ _ m1 9 _ = some x3 from h3)
    obtain ⟨s4, e4, q4, _⟩ := DataW.trod_string Tryd.underlying9 (show DataW.trod _ Tryd.prog W _ _ _ m1 9 _ = some x4 from h4)
    obtain ⟨s5, e5, q5, _⟩ := DataW.trod_string Tryd.underlying9 (show DataW.trod _ Tryd.prog W _ _ _ m1 9 _ = some x5 from h5)
    subst q0 q1 q2 q3 q4 q5
    have hx := hx1.1
    unfold Rows.laid_loop_example_feedbridge_impl_kindWords at hx
    simp only [List.map_cons, List.map_nil] at hx
    injection hx with hx
    injection hx with r0 hx
    injection hx with r1 hx
    injection hx with r2 hx
    injection hx with r3 hx
    injection hx with r4 hx
    injection hx with r5 hx
    have r0 := str_of r0.symm
    have r1 := str_of r1.symm
    have r2 := str_of r2.symm
    have r3 := str_of r3.symm
    have r4 := str_of r4.symm
    have r5 := str_of r5.symm
    subst r0 r1 r2 r3 r4 r5
    obtain ⟨L⟩ := cs
    have hL : L.length = 6 := by simpa using hlen
    match L, hL with
    | [y0, y1, y2, y3, y4, y5], _ =>
      simp at e0 e1 e2 e3 e4 e5
      subst e0 e1 e2 e3 e4 e5
      intro k hk0 hk5
      rw [cell k.toNat]
      exact kindW_at hk0 hk5
end Go.Proofs.YtoagpfdhbcgdcaaDoor
