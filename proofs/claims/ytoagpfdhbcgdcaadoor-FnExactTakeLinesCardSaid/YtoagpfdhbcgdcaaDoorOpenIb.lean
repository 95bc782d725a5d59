/- How an inbox by value is read. -/
import Derived.Test.YtoagpfdhbcgdcaaDoorG4
import Derived.Test.YtoagpfdhbcgdcaaDoorInbox
namespace Go.Proofs.YtoagpfdhbcgdcaaDoor
open Go.RowKit Go.ChangeShapes Go.WideShapes Go.Deep
set_option linter.unusedVariables false
set_option maxRecDepth 8000
section
variable {H : Type} {enc : TypeId × Value → H} {w : World} {base : Nat} {spare : Nat → Bool} {held : Bool}
theorem read_int : ∀ n cs x, DataW.trod enc Tryd.prog w base spare held n 3 cs = some x → ∃ a : Int, cs = [.int .i64 a] ∧ True := by
  intro n cs x h
  obtain ⟨s0, e0, _, b0⟩ := DataW.trod_int Tryd.underlying3 h
  exact ⟨s0, e0, trivial⟩
theorem flat_ints (zs : List Int) : flat (fun x : Int => [Value.int .i64 x]) zs = ints zs := by
  show List.flatMap _ zs = _
  induction zs with
  | nil => rfl
  | cons x xs ih => rw [List.flatMap_cons, ih]; rfl
theorem open_inbox {r : Reach} {b0 : Nat} {v : Value} {d : DataW H} {p : List MemPlace} (hv : Value.okWide Tryd.prog w r b0 41 v) (h : DataW.Trod enc Tryd.prog w base spare held 41 v d p) :
    ∃ A n c xs B m dd zs, v = ibA A n c B m dd ∧ (Sl w A n c 2 (hds xs) ∧ hdOk xs) ∧ Sl w B m dd 1 (ints zs) := by
  have hu := Tryd.underlying41
  obtain ⟨cs, rfl, hsz⟩ := okWide_struct hu hv
  obtain ⟨fuel, hf⟩ := h
  simp only [Value.cells] at hf
  obtain ⟨y0, y1, n', _, hl, h0, h1⟩ := trod_struct2 hu hf
  obtain ⟨A, n, c, xs, e0, S0, hok⟩ := open_list (f := hdC) Tryd.underlying39 (by kernel_rfl) hdC_len read_handle h0
  obtain ⟨B, m, dd, zs, e1, S1, _⟩ := open_list (f := fun x : Int => [Value.int .i64 x]) (k := 1) Tryd.underlying24 (by kernel_rfl) (fun _ => rfl) read_int h1
  rw [flat_ints] at S1
  refine ⟨A, n, c, xs, B, m, dd, zs, ?_, ⟨S0, hok⟩, S1⟩
  rw [show Tryd.prog.cellsOf 41 = 2 by kernel_rfl] at hl
  obtain ⟨L, rfl⟩ : ∃ L : List Value, cs = L.toArray := ⟨cs.toList, by simp⟩
  dsimp only at hl e0 e1
  match L, hl, e0, e1 with
  | [c0, c1], _, e0, e1 =>
    have e0' : [c0] = [Value.slice A n c] := e0
    have e1' : [c1] = [Value.slice B m dd] := e1
    simp at e0' e1'
    rw [e0', e1']
end
end Go.Proofs.YtoagpfdhbcgdcaaDoor
