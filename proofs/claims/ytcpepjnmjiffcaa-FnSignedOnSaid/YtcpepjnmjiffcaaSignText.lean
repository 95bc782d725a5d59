/- The contracts of SignText, the program's and the reference's. -/
import Derived.Test.YtcpepjnmjiffcaaPlainSign
import Derived.Test.YtcpepjnmjiffcaaGhost
namespace Go.Proofs.Ytcpepjnmjiffcaa
open Go.RowKit
set_option linter.unusedVariables false
set_option linter.unusedSimpArgs false
/-- Four stores into a block of four cells. -/
theorem row4 {w : World} {r : Nat} {x y z u a b c d : Value} {T : TypeId} (hz : w.heap[r]? = some (.cells #[x, y, z, u] T (0, 0))) :
    ((((w.setCell ⟨r, 0, none⟩ a).setCell ⟨r, 1, none⟩ b).setCell ⟨r, 2, none⟩ c).setCell ⟨r, 3, none⟩ d).heap[r]? = some (.cells #[a, b, c, d] T (0, 0)) ∧ w.grownBy ((((w.setCell ⟨r, 0, none⟩ a).setCell ⟨r, 1, none⟩ b).setCell ⟨r, 2, none⟩ c).setCell ⟨r, 3, none⟩ d) (some r) := by
  have h1 := heap_setCell_same w r 0 _ T a hz
  have h2 := heap_setCell_same _ r 1 _ T b h1
  have h3 := heap_setCell_same _ r 2 _ T c h2
  have h4 := heap_setCell_same _ r 3 _ T d h3
  refine ⟨by simpa using h4, rfl, rfl, rfl, by simp, fun k _ hk' => ?_⟩
  have hk : k ≠ r := fun e => hk' (by rw [e])
  rw [heap_setCell_other _ ⟨r, 3, none⟩ k _ hk, heap_setCell_other _ ⟨r, 2, none⟩ k _ hk, heap_setCell_other _ ⟨r, 1, none⟩ k _ hk, heap_setCell_other _ ⟨r, 0, none⟩ k _ hk]
/-- A result that is a signature and a yes or no. -/
def SigRes (v : (ByteArray × Int × Int × Int) × Bool) (e : Ending) : Prop := e = .returned (.tuple #[sigA v.1.1 v.1.2.1 v.1.2.2.1 v.1.2.2.2, .bool v.2])
theorem sigRes_of {v v' : (ByteArray × Int × Int × Int) × Bool} (h : v = v') : SigRes v (.returned (.tuple #[sigA v'.1.1 v'.1.2.1 v'.1.2.2.1 v'.1.2.2.2, .bool v'.2])) := by rw [h]; rfl
set_option maxHeartbeats 2000000 in
theorem sgnS_any (a b e : Int) (s : ByteArray) (w : World) (hs : s.size ≤ 9223372036854775807) : Calls Try.prog 52 #[keyA a b e, .string s] w fun e' w' => SigRes (sgV a b e s) e' ∧ Below w.heap.size w w' := by
  have hE : Below w.heap.size w ((w.alloc (.cells #[.int .i64 a, .int .i64 b, .int .i64 e] 30)).alloc (.cells #[.string ⟨#[]⟩, .int .i64 0, .int .i64 0, .int .i64 0] 57)) := (((Ext.of.refl w).alloc _).alloc _).below
  have hA : ((w.alloc (.cells #[.int .i64 a, .int .i64 b, .int .i64 e] 30)).alloc (.cells #[.string ⟨#[]⟩, .int .i64 0, .int .i64 0, .int .i64 0] 57)).heap[w.heap.size]? = some (.cells #[.int .i64 a, .int .i64 b, .int .i64 e] 30 (0, 0)) := alloc_old (alloc_new' rfl)
  have hB : ((w.alloc (.cells #[.int .i64 a, .int .i64 b, .int .i64 e] 30)).alloc (.cells #[.string ⟨#[]⟩, .int .i64 0, .int .i64 0, .int .i64 0] 57)).heap[w.heap.size + 1]? = some (.cells #[.string ⟨#[]⟩, .int .i64 0, .int .i64 0, .int .i64 0] 57 (0, 0)) := alloc_new' (by simp)
  have hV : w.heap.size < ((w.alloc (.cells #[.int .i64 a, .int .i64 b, .int .i64 e] 30)).alloc (.cells #[.string ⟨#[]⟩, .int .i64 0, .int .i64 0, .int .i64 0] 57)).heap.size := by simp; omega
  have CT := fun W => textS_any s W hs
  have CK := fun W => keyS_any a b e W
  have CM := fun W => modS_any a b e W
  go_enter Try.func52, Try.ntmps52
  go_wp2_with fail
  generalize hW : (w.alloc (.cells #[.int .i64 a, .int .i64 b, .int .i64 e] 30)).alloc (.cells #[.string ⟨#[]⟩, .int .i64 0, .int .i64 0, .int .i64 0] 57) = W at *
  clear hW
  have a0 := cell_of_row W w.heap.size 0 _ _ _ hA
  have a1 := cell_of_row W w.heap.size 1 _ _ _ hA
  have a2 := cell_of_row W w.heap.size 2 _ _ _ hA
  cases hv : keyV a b e with
  | false =>
    have R := hid (sgV_no2 (s := s) hv)
    rw [modF_no hv] at CM
    clear hv
    refine (CM _).mono ?_
    rintro e' w3 ⟨rfl, y3⟩
    have A2 := (y3.block (Array.getElem?_eq_some_iff.1 hA).1).trans hA
    have B2 := (y3.block (Array.getElem?_eq_some_iff.1 hB).1).trans hB
    have E2 := hE.trans (y3.below.mono hE.size)
    clear hA hB hE y3 a0 a1 a2 CM CT CK
    have f0 := frozen_of_row w3 (w.heap.size + 1) 0 _ _ B2
    have f1 := frozen_of_row w3 (w.heap.size + 1) 1 _ _ B2
    have f2 := frozen_of_row w3 (w.heap.size + 1) 2 _ _ B2
    have f3 := frozen_of_row w3 (w.heap.size + 1) 3 _ _ B2
    have c0 := cell_of_row w3 (w.heap.size + 1) 0 _ _ _ B2
    have c1 := cell_of_row w3 (w.heap.size + 1) 1 _ _ _ B2
    have c2 := cell_of_row w3 (w.heap.size + 1) 2 _ _ _ B2
    have c3 := cell_of_row w3 (w.heap.size + 1) 3 _ _ _ B2
    go_wp2_with fail
    have ks := row4 (a := .string ⟨#[]⟩) (b := .int .i64 0) (c := .int .i64 0) (d := .int .i64 0) B2
    have T5 := (E2).grown ks.2 (E2).size (by rintro _ ⟨rfl⟩; omega)
    revert ks T5
    generalize ((((w3.setCell ⟨w.heap.size + 1, 0, none⟩ (.string ⟨#[]⟩)).setCell ⟨w.heap.size + 1, 1, none⟩ (.int .i64 0)).setCell ⟨w.heap.size + 1, 2, none⟩ (.int .i64 0)).setCell ⟨w.heap.size + 1, 3, none⟩ (.int .i64 0)) = V
    intro ks T5
    have v0 := cell_of_row V (w.heap.size + 1) 0 _ _ _ ks.1
    have v1 := cell_of_row V (w.heap.size + 1) 1 _ _ _ ks.1
    have v2 := cell_of_row V (w.heap.size + 1) 2 _ _ _ ks.1
    have v3 := cell_of_row V (w.heap.size + 1) 3 _ _ _ ks.1
    exact bodyPost_ret (v := .tuple #[sigA ⟨#[]⟩ 0 0 0, .bool false]) (by simp [results, Try.results52, go_sem, v0, v1, v2, v3]) rfl ⟨sigRes_of R.out, T5⟩
  | true =>
    have hmm := modF_yes hv
    cases ht : textV s with
    | false =>
      have R := hid (sgV_no1 (a := a) (b := b) (e := e) ht)
      have hm := mod_bound (keyV_iff.1 hv)
      have hn0 : decide (a * b < 0) = false := by simp; omega
      rw [hmm] at CM
      rw [ht] at CT
      clear ht hv hmm hm
      refine (CM _).mono ?_
      rintro e' w3 ⟨rfl, y3⟩
      have A2 := (y3.block (Array.getElem?_eq_some_iff.1 hA).1).trans hA
      have B2 := (y3.block (Array.getElem?_eq_some_iff.1 hB).1).trans hB
      have E2 := hE.trans (y3.below.mono hE.size)
      clear hA hB hE y3 a0 a1 a2 CM CK
      go_wp2_with fail
      refine (CT _).mono ?_
      rintro e' w4 ⟨rfl, rfl⟩
      have f0 := frozen_of_row w3 (w.heap.size + 1) 0 _ _ B2
      have f1 := frozen_of_row w3 (w.heap.size + 1) 1 _ _ B2
      have f2 := frozen_of_row w3 (w.heap.size + 1) 2 _ _ B2
      have f3 := frozen_of_row w3 (w.heap.size + 1) 3 _ _ B2
      have c0 := cell_of_row w3 (w.heap.size + 1) 0 _ _ _ B2
      have c1 := cell_of_row w3 (w.heap.size + 1) 1 _ _ _ B2
      have c2 := cell_of_row w3 (w.heap.size + 1) 2 _ _ _ B2
      have c3 := cell_of_row w3 (w.heap.size + 1) 3 _ _ _ B2
      go_wp2_with fail
      have ks := row4 (a := .string ⟨#[]⟩) (b := .int .i64 0) (c := .int .i64 0) (d := .int .i64 0) B2
      have T5 := (E2).grown ks.2 (E2).size (by rintro _ ⟨rfl⟩; omega)
      revert ks T5
      generalize ((((w3.setCell ⟨w.heap.size + 1, 0, none⟩ (.string ⟨#[]⟩)).setCell ⟨w.heap.size + 1, 1, none⟩ (.int .i64 0)).setCell ⟨w.heap.size + 1, 2, none⟩ (.int .i64 0)).setCell ⟨w.heap.size + 1, 3, none⟩ (.int .i64 0)) = V
      intro ks T5
      have v0 := cell_of_row V (w.heap.size + 1) 0 _ _ _ ks.1
      have v1 := cell_of_row V (w.heap.size + 1) 1 _ _ _ ks.1
      have v2 := cell_of_row V (w.heap.size + 1) 2 _ _ _ ks.1
      have v3 := cell_of_row V (w.heap.size + 1) 3 _ _ _ ks.1
      exact bodyPost_ret (v := .tuple #[sigA ⟨#[]⟩ 0 0 0, .bool false]) (by simp [results, Try.results52, go_sem, v0, v1, v2, v3]) rfl ⟨sigRes_of R.out, T5⟩
    | true =>
      have R := hid (sgV_yes ht hv)
      have hm := mod_bound (keyV_iff.1 hv)
      have hd := digF_range (textV_iff.1 ht)
      have ht' := Int.tmod_eq_emod_of_nonneg (a := digF s) (b := a * b) hd.1
      have h0 : 0 ≤ digF s % (a * b) := Int.emod_nonneg _ (by omega)
      have h1 : digF s % (a * b) < a * b := Int.emod_lt_of_pos _ (by omega)
      have hx := IntWalk.i64_in (digF s % (a * b)) ⟨by omega, by omega⟩
      have hz : ¬ a * b = 0 := by omega
      have hz' : (a * b == 0) = false := by simpa using hz
      have hn0 : decide (a * b < 0) = false := by simp; omega
      rw [hmm] at CM
      rw [ht] at CT
      clear ht hv hmm h0 h1 hd hm
      refine (CM _).mono ?_
      rintro e' w3 ⟨rfl, y3⟩
      have A2 := (y3.block (Array.getElem?_eq_some_iff.1 hA).1).trans hA
      have B2 := (y3.block (Array.getElem?_eq_some_iff.1 hB).1).trans hB
      have E2 := hE.trans (y3.below.mono hE.size)
      clear hA hB hE y3 a0 a1 a2 CM CK
      go_wp2_with fail
      refine (CT _).mono ?_
      rintro e' w4 ⟨rfl, rfl⟩
      clear CT
      go_wp2_with fail
      refine wp_region_live (W := fun _ u => Below w.heap.size w u ∧ u.heap[w.heap.size]? = some (.cells #[.int .i64 a, .int .i64 b, .int .i64 e] 30 (0, 0)) ∧ ∃ x y z t, u.heap[w.heap.size + 1]? = some (.cells #[x, y, z, t] 57 (0, 0))) (dead := fun _ _ => false)
        (Tr := fun i p q => match i with | 11 => True | _ => q.heap[w.heap.size + 1]? = p.heap[w.heap.size + 1]?)
        (F := fun i v w' => match i with
          | 0 => v = .string s
          | 1 => v = .int .i64 (a * b)
          | 2 => v = .pointer (some ⟨w.heap.size, 2, none⟩)
          | 3 => v = .int .i64 e
          | 4 => v = keyA a b e
          | 5 => v = .string s
          | 6 => v = .int .i64 (digF s)
          | 7 => v = .int .i64 (a * b)
          | 8 => v = .int .i64 (digF s % (a * b))
          | 9 => v = .int .i64 (signF a b e (digF s % (a * b)))
          | 10 => v = sigA s (a * b) e (signF a b e (digF s % (a * b)))
          | 11 => w'.heap[w.heap.size + 1]? = some (.cells #[.string s, .int .i64 (a * b), .int .i64 e, .int .i64 (signF a b e (digF s % (a * b)))] 57 (0, 0))
          | 12 => v = .bool true
          | _ => True) (by kernel_rfl) (by kernel_rfl) (by kernel_rfl) ?_ ?_ ?_ ?_
      · exact ⟨⟨(E2).os, (E2).tape, (E2).output, (E2).size, (E2).block⟩, A2, _, _, _, _, B2⟩
      · intro i j kk p q v hi hj hne hdd haa hW hT hF
        match i, j with
        | _, 0 => exact hF
        | _, 1 => exact hF
        | _, 2 => exact hF
        | _, 3 => exact hF
        | _, 4 => exact hF
        | _, 5 => exact hF
        | _, 6 => exact hF
        | _, 7 => exact hF
        | _, 8 => exact hF
        | _, 9 => exact hF
        | _, 10 => exact hF
        | 11, 11 => exact absurd rfl hne
        | 0, 11 => exact (show q.heap[w.heap.size + 1]? = p.heap[w.heap.size + 1]? from hT).trans hF
        | 1, 11 => exact (show q.heap[w.heap.size + 1]? = p.heap[w.heap.size + 1]? from hT).trans hF
        | 2, 11 => exact (show q.heap[w.heap.size + 1]? = p.heap[w.heap.size + 1]? from hT).trans hF
        | 3, 11 => exact (show q.heap[w.heap.size + 1]? = p.heap[w.heap.size + 1]? from hT).trans hF
        | 4, 11 => exact (show q.heap[w.heap.size + 1]? = p.heap[w.heap.size + 1]? from hT).trans hF
        | 5, 11 => exact (show q.heap[w.heap.size + 1]? = p.heap[w.heap.size + 1]? from hT).trans hF
        | 6, 11 => exact (show q.heap[w.heap.size + 1]? = p.heap[w.heap.size + 1]? from hT).trans hF
        | 7, 11 => exact (show q.heap[w.heap.size + 1]? = p.heap[w.heap.size + 1]? from hT).trans hF
        | 8, 11 => exact (show q.heap[w.heap.size + 1]? = p.heap[w.heap.size + 1]? from hT).trans hF
        | 9, 11 => exact (show q.heap[w.heap.size + 1]? = p.heap[w.heap.size + 1]? from hT).trans hF
        | 10, 11 => exact (show q.heap[w.heap.size + 1]? = p.heap[w.heap.size + 1]? from hT).trans hF
        | 12, 11 => exact (show q.heap[w.heap.size + 1]? = p.heap[w.heap.size + 1]? from hT).trans hF
        | _ + 13, 11 => simp at hi; omega
        | _, 12 => exact hF
        | _, _ + 13 => simp at hj; omega
      · refine ⟨fun kk ρ u hkk hc hf hb hW hd => ?_, ?_⟩
        · exact yield_move _ rfl ⟨hb 1 (by kernel_rfl), hW, rfl⟩
        refine ⟨fun kk ρ u hkk hc hf hb hW hd => ?_, ?_⟩
        · exact yield_move _ rfl ⟨hb 6 (by kernel_rfl), hW, rfl⟩
        refine ⟨fun kk ρ u hkk hc hf hb hW hd => ?_, ?_⟩
        · have e1 : ρ (.tmp 2) = .pointer (some ⟨w.heap.size, 0, none⟩) := hb 2 (by kernel_rfl)
          clear hd hb
          exact yield_value (w' := u) _ (by simp [go_sem, hc, hf, e1]) ⟨rfl, hW, rfl⟩
        refine ⟨fun kk ρ u hkk hc hf hb hW hd => ?_, ?_⟩
        · have e1 : (ρ (.tmp 19)) = .pointer (some ⟨w.heap.size, 2, none⟩) := hd.1 rfl rfl
          clear hd hb
          have x2 := cell_of_row u w.heap.size 2 _ _ _ hW.2.1
          exact yield_value (w' := u) (.int .i64 e) (by simp [go_sem, hc, hf, e1, x2]) ⟨rfl, hW, rfl⟩
        refine ⟨fun kk ρ u hkk hc hf hb hW hd => ?_, ?_⟩
        · have e1 : ρ (.tmp 2) = .pointer (some ⟨w.heap.size, 0, none⟩) := hb 2 (by kernel_rfl)
          clear hd hb
          have x0 := cell_of_row u w.heap.size 0 _ _ _ hW.2.1
          have x1 := cell_of_row u w.heap.size 1 _ _ _ hW.2.1
          have x2 := cell_of_row u w.heap.size 2 _ _ _ hW.2.1
          exact yield_value (w' := u) (keyA a b e) (by simp [go_sem, hc, hf, e1, x0, x1, x2]) ⟨rfl, hW, rfl⟩
        refine ⟨fun kk ρ u hkk hc hf hb hW hd => ?_, ?_⟩
        · exact yield_move _ rfl ⟨hb 1 (by kernel_rfl), hW, rfl⟩
        refine ⟨fun kk ρ u hkk hc hf hb hW hd => ?_, ?_⟩
        · have e1 : (ρ (.tmp 22)) = .string s := hd.1 rfl rfl
          clear hd hb
          refine yield_call 69 #[.string s] (by simp [go_sem, hc, hf, e1]) ?_
          refine (digS_any s _ hs).mono ?_
          rintro e1 w3 ⟨rfl, rfl⟩
          exact ⟨_, rfl, rfl, hW, rfl⟩
        refine ⟨fun kk ρ u hkk hc hf hb hW hd => ?_, ?_⟩
        · exact yield_move _ rfl ⟨hb 6 (by kernel_rfl), hW, rfl⟩
        refine ⟨fun kk ρ u hkk hc hf hb hW hd => ?_, ?_⟩
        · have e1 : (ρ (.tmp 23)) = .int .i64 (digF s) := hd.1 rfl rfl
          have e2 : (ρ (.tmp 24)) = .int .i64 (a * b) := hd.2.1 rfl rfl
          clear hd hb
          exact yield_value (w' := u) (.int .i64 (digF s % (a * b))) (by simp [go_sem, hc, hf, e1, e2, hz, hz', ht', hx]) ⟨rfl, hW, rfl⟩
        refine ⟨fun kk ρ u hkk hc hf hb hW hd => ?_, ?_⟩
        · have e1 : (ρ (.tmp 21)) = keyA a b e := hd.1 rfl rfl
          have e2 : (ρ (.tmp 25)) = .int .i64 (digF s % (a * b)) := hd.2.1 rfl rfl
          clear hd hb
          refine yield_call 68 #[keyA a b e, .int .i64 (digF s % (a * b))] (by simp [go_sem, hc, hf, e1, e2]) ?_
          refine (signS_any a b e _ _).mono ?_
          rintro e1 w3 ⟨rfl, y3⟩
          obtain ⟨hB, hA, x, y, z, t, hX⟩ := hW
          have k1 := (y3.block (Array.getElem?_eq_some_iff.1 hX).1)
          exact ⟨_, rfl, rfl, ⟨hB.trans (y3.below.mono hB.size), (y3.block (Array.getElem?_eq_some_iff.1 hA).1).trans hA, x, y, z, t, k1.trans hX⟩, k1⟩
        refine ⟨fun kk ρ u hkk hc hf hb hW hd => ?_, ?_⟩
        · have e0 : (ρ (.tmp 17)) = .string s := hd.1 rfl rfl
          have e1 : (ρ (.tmp 18)) = .int .i64 (a * b) := hd.2.1 rfl rfl
          have e2 : (ρ (.tmp 20)) = .int .i64 e := hd.2.2.1 rfl rfl
          have e3 : (ρ (.tmp 26)) = .int .i64 (signF a b e (digF s % (a * b))) := hd.2.2.2.1 rfl rfl
          clear hd hb
          exact yield_value (w' := u) (sigA s (a * b) e (signF a b e (digF s % (a * b)))) (by simp [go_sem, hc, hf, e0, e1, e2, e3]) ⟨rfl, hW, rfl⟩
        refine ⟨fun kk ρ u hkk hc hf hb hW hd => ?_, ?_⟩
        · have e0 : ρ (.tmp 4) = .pointer (some ⟨w.heap.size + 1, 0, none⟩) := hb 4 (by kernel_rfl)
          have e1 : (ρ (.tmp 27)) = sigA s (a * b) e (signF a b e (digF s % (a * b))) := hd.1 rfl rfl
          obtain ⟨hB, hA, x, y, z, t, hX⟩ := hW
          have f0 := frozen_of_row u (w.heap.size + 1) 0 _ _ hX
          have f1 := frozen_of_row u (w.heap.size + 1) 1 _ _ hX
          have f2 := frozen_of_row u (w.heap.size + 1) 2 _ _ hX
          have f3 := frozen_of_row u (w.heap.size + 1) 3 _ _ hX
          have z0 := cell_of_row u (w.heap.size + 1) 0 _ _ _ hX
          have z1 := cell_of_row u (w.heap.size + 1) 1 _ _ _ hX
          have z2 := cell_of_row u (w.heap.size + 1) 2 _ _ _ hX
          have z3 := cell_of_row u (w.heap.size + 1) 3 _ _ _ hX
          have ks := row4 (a := .string s) (b := .int .i64 (a * b)) (c := .int .i64 e) (d := .int .i64 (signF a b e (digF s % (a * b)))) hX
          clear hd hb
          unfold Yield
          simp [go_sem, hc, hf, e0, e1, f0, f1, f2, f3, z0, z1, z2, z3]
          refine ⟨ks.1, hB.grown ks.2 hB.size (by rintro _ ⟨rfl⟩; omega), ?_, _, _, _, _, ks.1⟩
          exact (ks.2.block _ (Array.getElem?_eq_some_iff.1 hA).1 (by simp)).trans hA
        refine ⟨fun kk ρ u hkk hc hf hb hW hd => ?_, ?_⟩
        · exact yield_assign _ rfl ⟨hc _, hW, rfl⟩
        trivial
      intro env w5 hW hF
      obtain ⟨T5, _, _⟩ := hW
      have hX : w5.heap[w.heap.size + 1]? = some (.cells #[.string s, .int .i64 (a * b), .int .i64 e, .int .i64 (signF a b e (digF s % (a * b)))] 57 (0, 0)) := hF 11 (of_decide_eq_true (by kernel_rfl)) (fun _ _ => rfl)
      have y5 : env 12 = .bool true := hF 12 (of_decide_eq_true (by kernel_rfl)) (fun _ _ => rfl)
      clear hF
      have hr : List.range 28 = [0, 1, 2, 3, 4, 5, 6, 7, 8, 9, 10, 11, 12, 13, 14, 15, 16, 17, 18, 19, 20, 21, 22, 23, 24, 25, 26, 27] := rfl
      unfold after
      simp only [List.size_toArray, List.length_cons, List.length_nil, Nat.reduceAdd, hr, List.map_cons, List.map_nil]
      simp [idxOf, List.findIdx?, List.findIdx?.go, y5]
      clear hr
      have v0 := cell_of_row w5 (w.heap.size + 1) 0 _ _ _ hX
      have v1 := cell_of_row w5 (w.heap.size + 1) 1 _ _ _ hX
      have v2 := cell_of_row w5 (w.heap.size + 1) 2 _ _ _ hX
      have v3 := cell_of_row w5 (w.heap.size + 1) 3 _ _ _ hX
      go_wp2
      exact bodyPost_ret (v := .tuple #[sigA s (a * b) e (signF a b e (digF s % (a * b))), .bool true]) (by simp [results, Try.results52, go_sem, v0, v1, v2, v3]) rfl ⟨sigRes_of R.out, T5⟩
end Go.Proofs.Ytcpepjnmjiffcaa
