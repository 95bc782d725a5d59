/- The contract of the draw of an inbox and of lines. -/
import Derived.Test.YtoagpfdhbcgdcaaDoorDrawIb
import Derived.Test.YtoagpfdhbcgdcaaDoorPlainTake
import Derived.Test.YtoagpfdhbcgdcaaDoorAcTextS
import Derived.Test.YtoagpfdhbcgdcaaDoorG4
namespace Go.Proofs.YtoagpfdhbcgdcaaDoor
open Go.RowKit
set_option linter.unusedVariables false
set_option linter.unusedSimpArgs false
theorem atext_small (kd mk : Int) (a b s : ByteArray) : (atextV kd mk a b s).size ≤ 200 := by
  cases h : avalV kd mk a b s with
  | false => rw [atext_no h]; decide
  | true =>
    have h1 := kindW_size kd
    have h2 := mark_small mk
    have h3 := htext_size a b
    have h4 := aval_parts h
    rw [atext_yes h]
    simp only [ByteArray.size_append]
    have s1 : (⟨#[32]⟩ : ByteArray).size = 1 := rfl
    omega
theorem make31 : (madeCells (Value.string ⟨#[]⟩).cells (31 * 1)).toList = sts (List.replicate 31 ⟨#[]⟩) := by kernel_rfl
theorem small_snoc {ls : List ByteArray} {l : ByteArray} (h : ∀ x ∈ ls, x.size ≤ 200) (hl : l.size ≤ 200) : ∀ x ∈ ls ++ [l], x.size ≤ 200 := by
  intro x hx
  rw [List.mem_append] at hx
  rcases hx with hx | hx
  · exact h x hx
  · simp at hx; subst hx; exact hl
theorem grown_app {V w3 w4 : World} {o : Obj} {g : Nat} {r : Option Nat} (h : V.grownBy w3 (some g)) (G : (w3.alloc o).grownBy w4 r) (hr : ∀ k, r = some k → V.heap.size ≤ k) : V.grownBy w4 (some g) :=
  ⟨G.os.trans h.os, G.tape.trans h.tape, G.output.trans h.output, Nat.le_trans h.size (Nat.le_trans (by simp) G.size), fun q hq hne => (G.block q (Nat.lt_of_lt_of_le hq (Nat.le_trans h.size (by simp))) (fun e => by have := hr q e.symm; omega)).trans ((Below.heap_alloc w3 _ q (Nat.lt_of_lt_of_le hq h.size)).trans (h.block q hq hne))⟩
set_option maxRecDepth 8000 in
set_option maxHeartbeats 8000000 in
theorem drawTl_any (A : Option Addr) (n c : Nat) (xs : List Int) (w : World) (h : Row .u8 w A n c xs) :
    Calls Tryd.prog 20 #[.slice A n c] w fun e w' => ∃ C n1 c1 D m1 d1 ys zs La nl cl ls, e = .returned (.tuple #[ibA C n1 c1 D m1 d1, .slice La nl cl]) ∧ Sl w' C n1 c1 2 (hds ys) ∧ Sl w' D m1 d1 1 (ints zs) ∧ hdOk ys ∧ n1 ≤ 9 ∧ m1 ≤ 9 ∧ Sl w' La nl cl 1 (sts ls) ∧ (∀ l ∈ ls, l.size ≤ 200) ∧ nl ≤ 31 ∧ Below w.heap.size w w' := by
  obtain ⟨i0, hi, hz0, hz1, hz2⟩ := info_parts (show (Tryd.prog.info? 9).map (fun i => (i.zero, i.size, i.bytes)) = some (some (.string ⟨#[]⟩), 1, 16) by kernel_rfl)
  have hr : (w.alloc (.cells #[.slice none 0 0, .slice none 0 0] 26)).heap[w.heap.size]? = some (.cells #[.slice none 0 0, .slice none 0 0] 26 (0, 0)) := alloc_new' rfl
  have B0 : Below w.heap.size w (w.alloc (.cells #[.slice none 0 0, .slice none 0 0] 26)) := (Below.refl _ _).alloc (Nat.le_refl _) _
  have S := h.sl.alloc (.cells #[.slice none 0 0, .slice none 0 0] 26)
  have hg2 : (w.alloc (.cells #[.slice none 0 0, .slice none 0 0] 26)).heap.size = w.heap.size + 1 := by simp
  go_enter Tryd.func20, Tryd.ntmps20
  go_wp2_with fail
  refine (open_any A n c xs _ S h.byte).mono ?_
  rintro e w1 ⟨rfl, R1, B1⟩
  rw [hg2] at B1 R1
  replace hr := (B1.block _ (by omega)).trans hr
  replace B1 := B0.trans (B1.mono (by omega))
  clear B0 S
  go_wp2_with fail
  clear hg2
  refine (inbox_any (w.heap.size + 1) 0 12 _ R1 (by omega) (by omega) (by omega)).mono ?_
  rintro e w2 ⟨v, rfl, ⟨C, n1, c1, D, m1, d1, ys, zs, rfl, o1, o2, hok, hn1, hm1⟩, p2, l0, l1, R2, G2⟩
  have hl := R1.lt
  have HOK := hid hok
  replace hr := (G2.block _ (Array.getElem?_eq_some_iff.1 hr).1 (fun e => by injection e with e; omega)).trans hr
  have B2 := B1.grown G2 B1.size (by rintro _ ⟨rfl⟩; omega)
  have o1 := (own_lower o1 (show w.heap.size + 2 ≤ w1.heap.size by omega)).alloc (.cells #[.slice C n1 c1, .slice D m1 d1] 26)
  have o2 := (own_lower o2 (show w.heap.size + 2 ≤ w1.heap.size by omega)).alloc (.cells #[.slice C n1 c1, .slice D m1 d1] 26)
  have hx : (w2.alloc (.cells #[.slice C n1 c1, .slice D m1 d1] 26)).heap[w2.heap.size]? = some (.cells #[.slice C n1 c1, .slice D m1 d1] 26 (0, 0)) := alloc_new' rfl
  have B3 := B2.alloc B2.size (.cells #[.slice C n1 c1, .slice D m1 d1] 26)
  have hr3 := alloc_old (o := (.cells #[.slice C n1 c1, .slice D m1 d1] 26)) hr
  have R3 := R2.alloc (.cells #[.slice C n1 c1, .slice D m1 d1] 26)
  have hgx : w.heap.size + 2 ≤ w2.heap.size := Nat.le_trans (by omega) G2.size
  clear hr B1 B2 R1 R2 G2 hok hl
  have hVs : (w2.alloc (.cells #[.slice C n1 c1, .slice D m1 d1] 26)).heap.size = w2.heap.size + 1 := by simp
  go_wp2_with fail
  generalize w2.alloc (.cells #[.slice C n1 c1, .slice D m1 d1] 26) = V at *
  generalize hq : w2.heap.size = q at *
  clear hq
  have hgV := R3.lt
  have hqV := (Array.getElem?_eq_some_iff.1 hx).1
  have O0 := own_empty V 9 1
  have R0 := R3.alloc (.cells #[] 9)
  have G0 : V.grownBy (V.alloc (.cells #[] 9)) (some (w.heap.size + 1)) := World.grownBy_alloc _ _ _
  refine (pick_any (w.heap.size + 1) p2 9 _ R0 (by omega) (by omega) (by omega)).mono ?_
  rintro e w3 ⟨u, rfl, u0, u1, R4, G4⟩
  have O4 : w3.ownsRow V.heap.size 9 1 (.slice (some ⟨q + 1, 0, none⟩) 0 0) 0 (sts []) := by
    rw [← hVs]; exact O0.kept G4 (.inr (by simp [Value.ownBlock]; omega))
  have G4 := G0.trans G4
  have hp2 : p2 ≤ 4400 := by omega
  clear O0 R0 G0 R3 l0 l1
  go_wp2_with fail
  go_loopw [6, 7] (fun v i wr => ∃ (k p' m d : Nat) (B : Option Addr) (ls : List St), k ≤ 8 ∧ i = .int .i64 k ∧ v = .slice B m d ∧ wr.ownsRow V.heap.size 9 1 (.slice B m d) m (sts ls) ∧ Hid (∀ l ∈ ls, l.size ≤ 200) ∧ m + k ≤ 8 ∧ Rd wr (w.heap.size + 1) p' ∧ p' ≤ 4401 + 532 * (8 - k) ∧ V.grownBy wr (some (w.heap.size + 1))) (fun _ i _ => (intOf i).toNat)
  case atStart =>
    obtain ⟨k, rfl⟩ := Int.eq_ofNat_of_zero_le u0
    exact ⟨k, p2 + 1, 0, 0, _, [], by omega, rfl, rfl, O4, hid (by intro x hx; simp at hx), by omega, R4, by omega, G4⟩
  case round =>
    obtain ⟨k, p', m, d, B, ls, hk, rfl, rfl, O, HL, hm, RR, l2, G⟩ := hrel
    clear O4 R4 G4 u0 u1
    by_cases hk0 : 0 < k
    · go_wp2_with fail
      refine (activity_any (w.heap.size + 1) p' 0 _ RR (by omega) (by omega) (by omega)).mono ?_
      rintro e' w4 ⟨e, f, a, b, s, rfl, ha, hb, hs, p3, l5, l6, R5, G5⟩
      have O5 := O.kept G5 (by right; intro e; have := (O.lt _ e).1; omega)
      have G6 := G.trans G5
      clear O RR G G5
      go_wp2_with fail
      refine (atextS_any e f a b s _ (by omega) (by omega) (by omega)).mono ?_
      rintro e' w5 ⟨rfl, x5⟩
      have ht := atext_small e f a b s
      generalize atextV e f a b s = T at *
      replace O5 := own_ext O5 x5
      replace R5 := R5.below x5.below
      replace G6 := G6.trans (grown_of_below x5.below _)
      clear x5 ha hb hs
      have hgz := R5.lt
      have hA1 : ((w5.alloc (.cells #[.string T, .string ⟨#[98, 97, 100]⟩, .string ⟨#[]⟩] 9)).alloc (.cells #[.int .i64 0, .int .i64 0, .int .i64 0, .int .i64 0, .int .i64 1, .int .i64 2] 3)).heap[w5.heap.size]? = some (.cells #[.string T, .string ⟨#[98, 97, 100]⟩, .string ⟨#[]⟩] 9 (0, 0)) := alloc_old (alloc_new' rfl)
      have hA2 : ((w5.alloc (.cells #[.string T, .string ⟨#[98, 97, 100]⟩, .string ⟨#[]⟩] 9)).alloc (.cells #[.int .i64 0, .int .i64 0, .int .i64 0, .int .i64 0, .int .i64 1, .int .i64 2] 3)).heap[w5.heap.size + 1]? = some (.cells #[.int .i64 0, .int .i64 0, .int .i64 0, .int .i64 0, .int .i64 1, .int .i64 2] 3 (0, 0)) := alloc_new' (by simp)
      replace O5 := (O5.alloc (.cells #[.string T, .string ⟨#[98, 97, 100]⟩, .string ⟨#[]⟩] 9)).alloc (.cells #[.int .i64 0, .int .i64 0, .int .i64 0, .int .i64 0, .int .i64 1, .int .i64 2] 3)
      replace R5 := (R5.alloc (.cells #[.string T, .string ⟨#[98, 97, 100]⟩, .string ⟨#[]⟩] 9)).alloc (.cells #[.int .i64 0, .int .i64 0, .int .i64 0, .int .i64 0, .int .i64 1, .int .i64 2] 3)
      replace G6 := G6.trans ((World.grownBy_alloc _ _ _).trans (World.grownBy_alloc _ _ _) : w5.grownBy ((w5.alloc (.cells #[.string T, .string ⟨#[98, 97, 100]⟩, .string ⟨#[]⟩] 9)).alloc (.cells #[.int .i64 0, .int .i64 0, .int .i64 0, .int .i64 0, .int .i64 1, .int .i64 2] 3)) (some (w.heap.size + 1)))
      go_wp2_with fail
      generalize ((w5.alloc (.cells #[.string T, .string ⟨#[98, 97, 100]⟩, .string ⟨#[]⟩] 9)).alloc (.cells #[.int .i64 0, .int .i64 0, .int .i64 0, .int .i64 0, .int .i64 1, .int .i64 2] 3)) = V5 at *
      generalize hz : w5.heap.size = z at *
      clear hz
      refine (pick_any (w.heap.size + 1) p3 6 _ R5 (by omega) (by omega) (by omega)).mono ?_
      rintro e' w6 ⟨t, rfl, t0, t1, R6, G7⟩
      replace hA1 := (G7.block _ (Array.getElem?_eq_some_iff.1 hA1).1 (fun e => by injection e with e; omega)).trans hA1
      replace hA2 := (G7.block _ (Array.getElem?_eq_some_iff.1 hA2).1 (fun e => by injection e with e; omega)).trans hA2
      have O6 := O5.kept G7 (by right; intro e; have := (O5.lt _ e).1; omega)
      have G8 := G6.trans G7
      have hz6 := G8.size
      have hlp : p3 + 1 ≤ 4401 + 532 * (8 - (k - 1)) := by omega
      clear O5 R5 G6 G7 l2 l5 l6
      have ht6 : t = 0 ∨ t = 1 ∨ t = 2 ∨ t = 3 ∨ t = 4 ∨ t = 5 := by omega
      clear t0 t1
      rcases ht6 with rfl | rfl | rfl | rfl | rfl | rfl
      · have y0 := cell_of_row _ (z + 1) 0 _ _ _ hA2
        have y1 := cell_of_row _ z 0 _ _ _ hA1
        have HS := hid (small_snoc HL.out (show (T).size ≤ 200 from ht))
        clear hA1 hA2 HL ht
        go_wp2_with (at_builtin; refine wpList_append_see _ rfl (.tmp 19) (.tmp 31) eltString rfl V.heap.size _ m (sts ls) rfl (O6.alloc _) (some ⟨w6.heap.size, 0, none⟩) 1 1 (stC T) rfl (see_new _ (stC T) _ _ rfl) (by simp) rfl (stC_one _) (by unfold maxLen; omega) (by omega) (Nat.le_trans hz6 (by simp)) ?_; intro v7 w7 O7 G9 _)
        rw [show sts ls ++ stC T = sts (ls ++ [T]) by simp [flat]] at O7
        have R7 := (R6.alloc (.cells (stC T).toArray 9)).grown G9 (fun q hq => by have := (O6.lt q hq).1; omega)
        have G10 := grown_app G8 G9 (fun k e => (O6.lt k e).1)
        obtain ⟨B7, d7, rfl, _⟩ := own_form O7
        clear O6 R6 G8 G9 y0 y1
        go_wp2_with fail
        go_roundw
        case rel => exact ⟨k - 1, p3 + 1, m + 1, d7, B7, _, by omega, by go_num, rfl, O7, HS, by omega, R7, hlp, G10⟩
        case measure => simp [intOf]; omega
      · have y0 := cell_of_row _ (z + 1) 1 _ _ _ hA2
        have y1 := cell_of_row _ z 0 _ _ _ hA1
        have HS := hid (small_snoc HL.out (show (T).size ≤ 200 from ht))
        clear hA1 hA2 HL ht
        go_wp2_with (at_builtin; refine wpList_append_see _ rfl (.tmp 19) (.tmp 31) eltString rfl V.heap.size _ m (sts ls) rfl (O6.alloc _) (some ⟨w6.heap.size, 0, none⟩) 1 1 (stC T) rfl (see_new _ (stC T) _ _ rfl) (by simp) rfl (stC_one _) (by unfold maxLen; omega) (by omega) (Nat.le_trans hz6 (by simp)) ?_; intro v7 w7 O7 G9 _)
        rw [show sts ls ++ stC T = sts (ls ++ [T]) by simp [flat]] at O7
        have R7 := (R6.alloc (.cells (stC T).toArray 9)).grown G9 (fun q hq => by have := (O6.lt q hq).1; omega)
        have G10 := grown_app G8 G9 (fun k e => (O6.lt k e).1)
        obtain ⟨B7, d7, rfl, _⟩ := own_form O7
        clear O6 R6 G8 G9 y0 y1
        go_wp2_with fail
        go_roundw
        case rel => exact ⟨k - 1, p3 + 1, m + 1, d7, B7, _, by omega, by go_num, rfl, O7, HS, by omega, R7, hlp, G10⟩
        case measure => simp [intOf]; omega
      · have y0 := cell_of_row _ (z + 1) 2 _ _ _ hA2
        have y1 := cell_of_row _ z 0 _ _ _ hA1
        have HS := hid (small_snoc HL.out (show (T).size ≤ 200 from ht))
        clear hA1 hA2 HL ht
        go_wp2_with (at_builtin; refine wpList_append_see _ rfl (.tmp 19) (.tmp 31) eltString rfl V.heap.size _ m (sts ls) rfl (O6.alloc _) (some ⟨w6.heap.size, 0, none⟩) 1 1 (stC T) rfl (see_new _ (stC T) _ _ rfl) (by simp) rfl (stC_one _) (by unfold maxLen; omega) (by omega) (Nat.le_trans hz6 (by simp)) ?_; intro v7 w7 O7 G9 _)
        rw [show sts ls ++ stC T = sts (ls ++ [T]) by simp [flat]] at O7
        have R7 := (R6.alloc (.cells (stC T).toArray 9)).grown G9 (fun q hq => by have := (O6.lt q hq).1; omega)
        have G10 := grown_app G8 G9 (fun k e => (O6.lt k e).1)
        obtain ⟨B7, d7, rfl, _⟩ := own_form O7
        clear O6 R6 G8 G9 y0 y1
        go_wp2_with fail
        go_roundw
        case rel => exact ⟨k - 1, p3 + 1, m + 1, d7, B7, _, by omega, by go_num, rfl, O7, HS, by omega, R7, hlp, G10⟩
        case measure => simp [intOf]; omega
      · have y0 := cell_of_row _ (z + 1) 3 _ _ _ hA2
        have y1 := cell_of_row _ z 0 _ _ _ hA1
        have HS := hid (small_snoc HL.out (show (T).size ≤ 200 from ht))
        clear hA1 hA2 HL ht
        go_wp2_with (at_builtin; refine wpList_append_see _ rfl (.tmp 19) (.tmp 31) eltString rfl V.heap.size _ m (sts ls) rfl (O6.alloc _) (some ⟨w6.heap.size, 0, none⟩) 1 1 (stC T) rfl (see_new _ (stC T) _ _ rfl) (by simp) rfl (stC_one _) (by unfold maxLen; omega) (by omega) (Nat.le_trans hz6 (by simp)) ?_; intro v7 w7 O7 G9 _)
        rw [show sts ls ++ stC T = sts (ls ++ [T]) by simp [flat]] at O7
        have R7 := (R6.alloc (.cells (stC T).toArray 9)).grown G9 (fun q hq => by have := (O6.lt q hq).1; omega)
        have G10 := grown_app G8 G9 (fun k e => (O6.lt k e).1)
        obtain ⟨B7, d7, rfl, _⟩ := own_form O7
        clear O6 R6 G8 G9 y0 y1
        go_wp2_with fail
        go_roundw
        case rel => exact ⟨k - 1, p3 + 1, m + 1, d7, B7, _, by omega, by go_num, rfl, O7, HS, by omega, R7, hlp, G10⟩
        case measure => simp [intOf]; omega
      · have y0 := cell_of_row _ (z + 1) 4 _ _ _ hA2
        have y1 := cell_of_row _ z 1 _ _ _ hA1
        have HS := hid (small_snoc HL.out (show ((⟨#[98, 97, 100]⟩ : ByteArray)).size ≤ 200 from by decide))
        clear hA1 hA2 HL ht
        go_wp2_with (at_builtin; refine wpList_append_see _ rfl (.tmp 19) (.tmp 31) eltString rfl V.heap.size _ m (sts ls) rfl (O6.alloc _) (some ⟨w6.heap.size, 0, none⟩) 1 1 (stC (⟨#[98, 97, 100]⟩ : ByteArray)) rfl (see_new _ (stC (⟨#[98, 97, 100]⟩ : ByteArray)) _ _ rfl) (by simp) rfl (stC_one _) (by unfold maxLen; omega) (by omega) (Nat.le_trans hz6 (by simp)) ?_; intro v7 w7 O7 G9 _)
        rw [show sts ls ++ stC (⟨#[98, 97, 100]⟩ : ByteArray) = sts (ls ++ [(⟨#[98, 97, 100]⟩ : ByteArray)]) by simp [flat]] at O7
        have R7 := (R6.alloc (.cells (stC (⟨#[98, 97, 100]⟩ : ByteArray)).toArray 9)).grown G9 (fun q hq => by have := (O6.lt q hq).1; omega)
        have G10 := grown_app G8 G9 (fun k e => (O6.lt k e).1)
        obtain ⟨B7, d7, rfl, _⟩ := own_form O7
        clear O6 R6 G8 G9 y0 y1
        go_wp2_with fail
        go_roundw
        case rel => exact ⟨k - 1, p3 + 1, m + 1, d7, B7, _, by omega, by go_num, rfl, O7, HS, by omega, R7, hlp, G10⟩
        case measure => simp [intOf]; omega
      · have y0 := cell_of_row _ (z + 1) 5 _ _ _ hA2
        have y1 := cell_of_row _ z 2 _ _ _ hA1
        have HS := hid (small_snoc HL.out (show ((⟨#[]⟩ : ByteArray)).size ≤ 200 from by decide))
        clear hA1 hA2 HL ht
        go_wp2_with (at_builtin; refine wpList_append_see _ rfl (.tmp 19) (.tmp 31) eltString rfl V.heap.size _ m (sts ls) rfl (O6.alloc _) (some ⟨w6.heap.size, 0, none⟩) 1 1 (stC (⟨#[]⟩ : ByteArray)) rfl (see_new _ (stC (⟨#[]⟩ : ByteArray)) _ _ rfl) (by simp) rfl (stC_one _) (by unfold maxLen; omega) (by omega) (Nat.le_trans hz6 (by simp)) ?_; intro v7 w7 O7 G9 _)
        rw [show sts ls ++ stC (⟨#[]⟩ : ByteArray) = sts (ls ++ [(⟨#[]⟩ : ByteArray)]) by simp [flat]] at O7
        have R7 := (R6.alloc (.cells (stC (⟨#[]⟩ : ByteArray)).toArray 9)).grown G9 (fun q hq => by have := (O6.lt q hq).1; omega)
        have G10 := grown_app G8 G9 (fun k e => (O6.lt k e).1)
        obtain ⟨B7, d7, rfl, _⟩ := own_form O7
        clear O6 R6 G8 G9 y0 y1
        go_wp2_with fail
        go_roundw
        case rel => exact ⟨k - 1, p3 + 1, m + 1, d7, B7, _, by omega, by go_num, rfl, O7, HS, by omega, R7, hlp, G10⟩
        case measure => simp [intOf]; omega
    · obtain rfl : k = 0 := by omega
      have l2' : p' ≤ 8657 := by omega
      have hm8 : m ≤ 8 := by omega
      clear l2 hm hk hk0
      go_wp2_with fail
      refine (odd_any (w.heap.size + 1) p' 24 _ RR (by omega) (by omega) (by omega)).mono ?_
      rintro e' w4 ⟨o, rfl, p4, l3, l4, R5, G5⟩
      have O5 := O.kept G5 (by right; intro e; have := (O.lt _ e).1; omega)
      have G6 := G.trans G5
      clear O RR G G5 R5 l3 l4
      cases o with
      | false =>
        have hx := (G6.block _ (Array.getElem?_eq_some_iff.1 hx).1 (fun e => by injection e with e; omega)).trans hx
        have hr3 := (G6.block _ (Array.getElem?_eq_some_iff.1 hr3).1 (fun e => by injection e with e; omega)).trans hr3
        have o1 := o1.kept G6 (.inr (fun e => by have := (o1.lt _ e).1; omega))
        have o2 := o2.kept G6 (.inr (fun e => by have := (o2.lt _ e).1; omega))
        have BB := B3.grown G6 B3.size (by rintro _ ⟨rfl⟩; omega)
        have x0 := cell_of_row _ q 0 _ _ _ hx
        have x1 := cell_of_row _ q 1 _ _ _ hx
        have f0 := frozen_of_row _ w.heap.size 0 _ _ hr3
        have f1 := frozen_of_row _ w.heap.size 1 _ _ hr3
        have r0 := cell_of_row _ w.heap.size 0 _ _ _ hr3
        have r1 := cell_of_row _ w.heap.size 1 _ _ _ hr3
        have hrr := set_ib1 (v := .slice D m1 d1) (set_ib0 (v := .slice C n1 c1) hr3)
        have v0 := cell_of_row _ w.heap.size 0 _ _ _ hrr
        have v1 := cell_of_row _ w.heap.size 1 _ _ _ hrr
        have GS : w4.grownBy ((w4.setCell ⟨w.heap.size, 0, none⟩ (.slice C n1 c1)).setCell ⟨w.heap.size, 1, none⟩ (.slice D m1 d1)) (some w.heap.size) := StIb.grown
        have FIN := hid (And.intro (own_sl (o1.kept GS (.inr (fun e => by have := (o1.lt _ e).1; omega)))) (And.intro (own_sl (o2.kept GS (.inr (fun e => by have := (o2.lt _ e).1; omega)))) (And.intro (own_sl (O5.kept GS (.inr (fun e => by have := (O5.lt _ e).1; omega)))) (BB.grown GS BB.size (by rintro _ ⟨rfl⟩; exact Nat.le_refl _)))))
        clear hx hr3 o1 o2 B3 BB hrr GS O5 G6
        go_wp2_with fail
        exact bodyPost_ret (v := .tuple #[ibA C n1 c1 D m1 d1, .slice B m d]) (by simp [results, Tryd.results20, go_sem, v0, v1]) rfl ⟨C, n1, c1, D, m1, d1, ys, zs, _, _, _, ls, rfl, FIN.out.1, FIN.out.2.1, HOK.out, hn1, hm1, FIN.out.2.2.1, HL.out, by omega, FIN.out.2.2.2⟩
      | true =>
        clear O5 HL
        have hz4 := G6.size
        have hx4 := (G6.block _ (Array.getElem?_eq_some_iff.1 hx).1 (fun e => by injection e with e; omega)).trans hx
        have hr4 := (G6.block _ (Array.getElem?_eq_some_iff.1 hr3).1 (fun e => by injection e with e; omega)).trans hr3
        go_wp2_with (at_make; refine wpList_make_full _ rfl _ _ 51 rfl V.heap.size 9 i0 (.string ⟨#[]⟩) 1 Tryd.underlying51 hi hz0 hz1 .i64 .i64 31 31 31 rfl rfl rfl rfl (by rw [hz2]; omega) (by unfold maxLen; omega) hz4 ?_; intro w7 O7 G7; have hx7 := (G7.block _ (Array.getElem?_eq_some_iff.1 hx4).1 (by simp)).trans hx4; have hr7 := (G7.block _ (Array.getElem?_eq_some_iff.1 hr4).1 (by simp)).trans hr4; have x0 := cell_of_row _ q 0 _ _ _ hx7; have x1 := cell_of_row _ q 1 _ _ _ hx7; have f0 := frozen_of_row _ w.heap.size 0 _ _ hr7; have f1 := frozen_of_row _ w.heap.size 1 _ _ hr7; have r0 := cell_of_row _ w.heap.size 0 _ _ _ hr7; have r1 := cell_of_row _ w.heap.size 1 _ _ _ hr7)
        rw [make31] at O7
        have G8 : V.grownBy w7 (some (w.heap.size + 1)) := ⟨G7.os.trans G6.os, G7.tape.trans G6.tape, G7.output.trans G6.output, Nat.le_trans G6.size G7.size, fun b hb hne => (G7.block b (Nat.lt_of_lt_of_le hb G6.size) (by simp)).trans (G6.block b hb hne)⟩
        clear G6 G7 hz4 hx4 hr4 hx7 hr7 x0 x1 f0 f1 r0 r1
        have hx := (G8.block _ (Array.getElem?_eq_some_iff.1 hx).1 (fun e => by injection e with e; omega)).trans hx
        have hr3 := (G8.block _ (Array.getElem?_eq_some_iff.1 hr3).1 (fun e => by injection e with e; omega)).trans hr3
        have o1 := o1.kept G8 (.inr (fun e => by have := (o1.lt _ e).1; omega))
        have o2 := o2.kept G8 (.inr (fun e => by have := (o2.lt _ e).1; omega))
        have BB := B3.grown G8 B3.size (by rintro _ ⟨rfl⟩; omega)
        have x0 := cell_of_row _ q 0 _ _ _ hx
        have x1 := cell_of_row _ q 1 _ _ _ hx
        have f0 := frozen_of_row _ w.heap.size 0 _ _ hr3
        have f1 := frozen_of_row _ w.heap.size 1 _ _ hr3
        have r0 := cell_of_row _ w.heap.size 0 _ _ _ hr3
        have r1 := cell_of_row _ w.heap.size 1 _ _ _ hr3
        have hrr := set_ib1 (v := .slice D m1 d1) (set_ib0 (v := .slice C n1 c1) hr3)
        have v0 := cell_of_row _ w.heap.size 0 _ _ _ hrr
        have v1 := cell_of_row _ w.heap.size 1 _ _ _ hrr
        have GS : w7.grownBy ((w7.setCell ⟨w.heap.size, 0, none⟩ (.slice C n1 c1)).setCell ⟨w.heap.size, 1, none⟩ (.slice D m1 d1)) (some w.heap.size) := StIb.grown
        have FIN := hid (And.intro (own_sl (o1.kept GS (.inr (fun e => by have := (o1.lt _ e).1; omega)))) (And.intro (own_sl (o2.kept GS (.inr (fun e => by have := (o2.lt _ e).1; omega)))) (And.intro (own_sl (O7.kept GS (.inr (fun e => by have := (O7.lt _ e).1; omega)))) (BB.grown GS BB.size (by rintro _ ⟨rfl⟩; exact Nat.le_refl _)))))
        clear hx hr3 o1 o2 B3 BB hrr GS O7 G8
        exact bodyPost_ret (v := .tuple #[ibA C n1 c1 D m1 d1, .slice (some ⟨w4.heap.size, 0, none⟩) 31 31]) (by simp [results, Tryd.results20, go_sem, v0, v1]) rfl ⟨C, n1, c1, D, m1, d1, ys, zs, _, _, _, List.replicate 31 ⟨#[]⟩, rfl, FIN.out.1, FIN.out.2.1, HOK.out, hn1, hm1, FIN.out.2.2.1, (fun l hl => by rw [List.mem_replicate] at hl; rw [hl.2]; decide), by omega, FIN.out.2.2.2⟩
end Go.Proofs.YtoagpfdhbcgdcaaDoor
