/- How the laws' arguments are read: lists of things of several cells, and such things by value. -/
import Derived.Test.YtlfjnaeepblhiaaFlat
import Derived.Deep.Slices
import Derived.ChangeSame
import Derived.OpenShut
namespace Go.Proofs.Ytlfjnaeepblhiaa
open Go.RowKit Go.ChangeShapes Go.WideShapes Go.Deep
set_option linter.unusedVariables false

section
variable {H : Type} {enc : TypeId × Value → H} {P : Program} {w : World} {base : Nat} {spare : Nat → Bool} {held : Bool}
theorem open_list {α : Type} [Inhabited α] {f : α → List Value} {k : Nat} {ok : α → Prop} {t e : TypeId} (ht : P.underlying t = some (.slice e)) (hC : P.cellsOf e = k) (hlen : ∀ a, (f a).length = k)
    (hread : ∀ n cs x, DataW.trod enc P w base spare held n e cs = some x → ∃ a, cs = f a ∧ ok a) {fuel : Nat} {cs : List Value} {x : DataW H × List MemPlace} (h : DataW.trod enc P w base spare held fuel t cs = some x) :
    ∃ (A : Option Addr) (len cap : Nat) (xs : List α), cs = [.slice A len cap] ∧ Sl w A len cap k (flat f xs) ∧ ∀ a ∈ xs, ok a := by
  rcases open_slice ht h with ⟨h0, _⟩ | ⟨a, len, cap, m, n, D, Pl, hcs, hb, hl, hm, hmm, hx, hi⟩
  · exact ⟨none, 0, 0, [], h0, ⟨.inl rfl, by simp [flat], Nat.le_refl _, Nat.zero_le _⟩, by simp⟩
  · have hlm : len ≤ m := by rw [hmm]; split <;> omega
    obtain ⟨X, hX⟩ := choose_lt (α := α) (n := len) (p := fun i x => (∀ j u, (f x)[j]? = some u → w.cell? (a.add (i * k + j)) = some u) ∧ ok x) (fun i hil => by
      obtain ⟨cs', hc, htr⟩ := hi i (by omega)
      obtain ⟨x, rfl, hok⟩ := hread _ _ _ htr
      obtain ⟨_, _, hat⟩ := World.cells?_some hc
      refine ⟨x, fun j u hu => ?_, hok⟩
      have hj : j < k := by have := (List.getElem?_eq_some_iff.1 hu).1; rwa [hlen] at this
      have := hat j (by rw [hC]; exact hj)
      rw [addr_add, hC] at this
      rw [this, hu])
    refine ⟨some a, len, cap, (List.range len).map X, hcs, ⟨.inr ⟨a, rfl, fun j u hu => ?_⟩, by rw [flat_length hlen]; simp, hl, hm⟩, ?_⟩
    · have hp : 0 < k := by
        rcases Nat.eq_zero_or_pos k with h0 | h0
        · exfalso
          have := (List.getElem?_eq_some_iff.1 hu).1
          rw [flat_length hlen, h0] at this; simp at this
        · exact h0
      have hjl : j < len * k := by have := (List.getElem?_eq_some_iff.1 hu).1; rwa [flat_length hlen, List.length_map, List.length_range] at this
      have hq : j / k < len := Nat.div_lt_of_lt_mul (by rwa [Nat.mul_comm] at hjl)
      have hr : j % k < k := Nat.mod_lt _ hp
      have e1 : j / k * k + j % k = j := by rw [Nat.mul_comm]; exact Nat.div_add_mod j k
      have hg : ((List.range len).map X)[j / k]? = some (X (j / k)) := by simp [hq]
      have h2 := flat_get hlen hg hr
      rw [e1] at h2
      have := (hX _ hq).1 (j % k) u (by rw [← h2]; exact hu)
      rwa [e1] at this
    · intro x hx
      obtain ⟨i, hi', rfl⟩ := List.mem_map.1 hx
      exact (hX i (List.mem_range.1 hi')).2
theorem open_val {α : Type} {f : α → List Value} {ok : α → Prop} {t : TypeId} {fs : Array Field} {r : Reach} {b0 : Nat} {v : Value} {d : DataW H} {p : List MemPlace} (hs : P.underlying t = some (.struct fs))
    (hread : ∀ n cs x, DataW.trod enc P w base spare held n t cs = some x → ∃ a, cs = f a ∧ ok a) (hv : Value.okWide P w r b0 t v) (h : DataW.Trod enc P w base spare held t v d p) :
    ∃ a, v = .agg (f a).toArray ∧ ok a := by
  obtain ⟨cs, rfl, hsz⟩ := okWide_struct hs hv
  obtain ⟨fuel, hf⟩ := h
  obtain ⟨a, ha, hok⟩ := hread _ _ _ hf
  have ha : cs.toList = f a := by simpa [Value.cells] using ha
  exact ⟨a, by rw [← ha], hok⟩
set_option maxRecDepth 4000 in
theorem read_handle : ∀ n cs x, DataW.trod enc Try.prog w base spare held n 60 cs = some x → ∃ a : ByteArray × ByteArray, cs = [.string a.1, .string a.2] ∧ (a.1.size ≤ 9223372036854775807 ∧ a.2.size ≤ 9223372036854775807) := by
  intro n cs x h
  have hu := Try.underlying60
  obtain ⟨y0, y1, n', _, hl, h0, h1⟩ := trod_struct2 hu h
  obtain ⟨s0, e0, _, b0⟩ := DataW.trod_string Try.underlying9 h0
  obtain ⟨s1, e1, _, b1⟩ := DataW.trod_string Try.underlying9 h1
  refine ⟨(s0, s1), ?_, ⟨b0, b1⟩⟩
  rw [show Try.prog.cellsOf 60 = 2 by kernel_rfl] at hl
  match cs, hl with
  | [c0, c1], _ =>
    have e0' : [c0] = [Value.string s0] := e0
    have e1' : [c1] = [Value.string s1] := e1
    simp at e0' e1'
    rw [e0', e1']
set_option maxRecDepth 4000 in
theorem read_item : ∀ n cs x, DataW.trod enc Try.prog w base spare held n 94 cs = some x → ∃ a : ByteArray × ByteArray × ByteArray × Int, cs = [.string a.1, .string a.2.1, .string a.2.2.1, .int .i64 a.2.2.2] ∧ (a.1.size ≤ 9223372036854775807 ∧ a.2.1.size ≤ 9223372036854775807 ∧ a.2.2.1.size ≤ 9223372036854775807) := by
  intro n cs x h
  obtain ⟨xs, n', _, _, hl, hlen, hf⟩ := DataW.trod_struct Try.underlying94 h
  rw [show Try.prog.cellsOf 94 = 4 by kernel_rfl] at hl
  match xs, hlen, cs, hl with
  | [y0, y1, y2, y3], _, [c0, c1, c2, c3], _ =>
    obtain ⟨s0, e0, _, b0⟩ := DataW.trod_string Try.underlying9 (hf 0 _ rfl)
    obtain ⟨s1, e1, _, b1⟩ := DataW.trod_string Try.underlying9 (hf 1 _ rfl)
    obtain ⟨s2, e2, _, b2⟩ := DataW.trod_string Try.underlying9 (hf 2 _ rfl)
    obtain ⟨s3, e3, _, b3⟩ := DataW.trod_int Try.underlying3 (hf 3 _ rfl)
    have e0' : [c0] = [Value.string s0] := e0
    have e1' : [c1] = [Value.string s1] := e1
    have e2' : [c2] = [Value.string s2] := e2
    have e3' : [c3] = [Value.int .i64 s3] := e3
    simp at e0' e1' e2' e3'
    exact ⟨(s0, s1, s2, s3), by rw [e0', e1', e2', e3'], b0, b1, b2⟩
set_option maxRecDepth 4000 in
theorem read_activity : ∀ n cs x, DataW.trod enc Try.prog w base spare held n 77 cs = some x → ∃ a : Int × Int × ByteArray × ByteArray × ByteArray, cs = [.int .i64 a.1, .int .i64 a.2.1, .string a.2.2.1, .string a.2.2.2.1, .string a.2.2.2.2] ∧ (a.2.2.1.size ≤ 9223372036854775807 ∧ a.2.2.2.1.size ≤ 9223372036854775807 ∧ a.2.2.2.2.size ≤ 9223372036854775807) := by
  intro n cs x h
  obtain ⟨xs, n', _, _, hl, hlen, hf⟩ := DataW.trod_struct Try.underlying77 h
  rw [show Try.prog.cellsOf 77 = 5 by kernel_rfl] at hl
  match xs, hlen, cs, hl with
  | [y0, y1, y2, y3], _, [c0, c1, c2, c3, c4], _ =>
    obtain ⟨s0, e0, _, b0⟩ := DataW.trod_int Try.underlying3 (hf 0 _ rfl)
    obtain ⟨s1, e1, _, b1⟩ := DataW.trod_int Try.underlying3 (hf 1 _ rfl)
    obtain ⟨⟨p, q⟩, e2, b2, b3⟩ := read_handle _ _ _ (hf 2 _ rfl)
    obtain ⟨s4, e4, _, b4⟩ := DataW.trod_string Try.underlying9 (hf 3 _ rfl)
    have e0' : [c0] = [Value.int .i64 s0] := e0
    have e1' : [c1] = [Value.int .i64 s1] := e1
    have e2' : [c2, c3] = [Value.string p, Value.string q] := e2
    have e4' : [c4] = [Value.string s4] := e4
    simp at e0' e1' e2' e4'
    exact ⟨(s0, s1, p, q, s4), by rw [e0', e1', e2'.1, e2'.2, e4'], b2, b3, b4⟩
theorem read_string : ∀ n cs x, DataW.trod enc Try.prog w base spare held n 9 cs = some x → ∃ a : ByteArray, cs = [.string a] ∧ a.size ≤ 9223372036854775807 := by
  intro n cs x h
  obtain ⟨s0, e0, _, b0⟩ := DataW.trod_string Try.underlying9 h
  exact ⟨s0, e0, b0⟩
end
end Go.Proofs.Ytlfjnaeepblhiaa
