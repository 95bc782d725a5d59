/- The contract of the draw of two feeds. -/
import Derived.Test.YtlfjnaeepblhiaaDrawFeed
namespace Go.Proofs.Ytlfjnaeepblhiaa
open Go.RowKit
set_option linter.unusedVariables false
set_option linter.unusedSimpArgs false
/-- A list that is not appended to keeps its row. -/
theorem own_stay {u v : World} {N M : Nat} {T T' : TypeId} {size size' n n' : Nat} {x y : Value} {vs vs' : List Value} (h : u.ownsRow N T size x n vs) (O : u.ownsRow M T' size' y n' vs') (hx : ∀ j, x.ownBlock = some j → j < M) (G : u.grownBy v y.ownBlock) : v.ownsRow N T size x n vs := by
  refine h.kept G ?_
  cases e : x.ownBlock with
  | none => exact .inl rfl
  | some j => exact .inr fun e2 => by have := hx j e; have := (O.lt j e2.symm).1; omega
set_option maxRecDepth 8000 in
set_option maxHeartbeats 16000000 in
theorem both_any (g p : Nat) (n : Int) (w : World) (h : Rd w g p) (hp : p ≤ 10000) (h1 : 0 ≤ n) (h2 : n ≤ 1048576) :
    Calls Try.prog 59 #[.pointer (some ⟨g, 0, none⟩), .int .i64 n] w fun e' w' => ∃ A k d xs C m e ys, e' = .returned (.tuple #[.slice A k d, .slice C m e]) ∧ w'.ownsRow w.heap.size 57 4 (.slice A k d) k (ims xs) ∧ w'.ownsRow w.heap.size 57 4 (.slice C m e) m (ims ys) ∧ imOk xs ∧ imOk ys ∧ k ≤ 7 ∧ m ≤ 9 ∧ Turn w w' g 0 (p + 7000) := by
  have hgr := h.lt
  go_enter Try.func59, Try.ntmps59
  go_wp2_with fail
  refine (feed_any g p n _ h (by omega) h1 h2).mono ?_
  rintro e' w1 ⟨A, k, d, xs, rfl, OA, HA, hk7, p1, l0, l1, R1, G1⟩
  have HOKA := hid HA
  have hp1 : p1 ≤ p + 5000 := by rw [Nat.zero_add] at l1; exact l1
  clear h HA l0 l1
  have OB := own_empty w1 57 4
  have HXA := hid (fun j (e : (Value.slice A k d).ownBlock = some j) => (OA.lt j e).2)
  replace OA := OA.alloc (.cells #[] 57)
  replace R1 := R1.alloc (.cells #[] 57)
  have HNw := hid G1.size
  replace G1 := G1.trans (World.grownBy_alloc w1 (.cells #[] 57) _)
  have hNb : w1.heap.size ≤ (w1.alloc (.cells #[] 57)).heap.size := by simp
  have hgN : g < w1.heap.size := by have := HNw.out; omega
  go_wp2_with fail
  generalize hNN : w1.heap.size = Nb at *
  generalize hVV : w1.alloc (.cells #[] 57) = V1 at *
  clear hVV hNN
  go_loopw [7, 8] (fun v i wr => ∃ (j p' m e : Nat) (t : Int) (C : Option Addr) (ys : List Im), j ≤ k ∧ t + 1 = (j : Int) ∧ i = .int .i64 t ∧ v = .slice C m e ∧ wr.ownsRow Nb 57 4 (.slice C m e) m (ims ys) ∧ Hid (imOk ys) ∧ m + j ≤ k ∧ wr.ownsRow w.heap.size 57 4 (.slice A k d) k (ims xs) ∧ Rd wr g p' ∧ p' ≤ p1 + 2 * (k - j) ∧ w.grownBy wr (some g) ∧ Nb ≤ wr.heap.size) (fun _ i _ => (intOf i + 1).toNat)
  case atStart => exact ⟨k, p1, 0, 0, (k : Int) - 1, _, [], by omega, by omega, rfl, rfl, OB, hid (by intro x hx; simp at hx), by omega, OA, R1, by omega, G1, hNb⟩
  case round =>
    clear OA OB R1 G1 hNb
    obtain ⟨j, p', m, e, t, C, ys, hj, ht, rfl, rfl, OB, HOK, hm, OA, R, l2, G, hNb⟩ := hrel
    by_cases ht0 : 0 ≤ t
    · obtain ⟨j', rfl⟩ := Int.eq_ofNat_of_zero_le ht0
      obtain ⟨ad, a, b, s, f, hA, hab, c0, c1, c2, c3⟩ := (own_sl OA).im (j := j') (by omega)
      subst hA
      have hv := HOKA.out _ (List.mem_of_getElem? hab)
      have HV := hid hv
      clear hab hv
      have hIB : (wr.alloc (.cells #[.string a, .string b, .string s, .int .i64 f] 57)).heap[wr.heap.size]? = some (.cells #[.string a, .string b, .string s, .int .i64 f] 57 (0, 0)) := alloc_new' rfl
      have HXB := hid (fun j (h0 : (Value.slice C m e).ownBlock = some j) => (OB.lt j h0).2)
      have OA1 := OA.alloc (.cells #[.string a, .string b, .string s, .int .i64 f] 57)
      have OB1 := OB.alloc (.cells #[.string a, .string b, .string s, .int .i64 f] 57)
      have R1 := R.alloc (.cells #[.string a, .string b, .string s, .int .i64 f] 57)
      have G1 := G.trans (World.grownBy_alloc wr (.cells #[.string a, .string b, .string s, .int .i64 f] 57) _)
      have hl3 : p' + 1 + 1 ≤ p1 + 2 * (k - j') := by omega
      clear OA OB R G l2
      go_wp2_with fail
      clear c0 c1 c2 c3
      generalize hV : wr.alloc (.cells #[.string a, .string b, .string s, .int .i64 f] 57) = V at *
      generalize hBB : wr.heap.size = B at *
      clear hV hBB
      refine (pick_any g p' 4 _ R1 (by omega) (by omega) (by omega)).mono ?_
      rintro e' w3 ⟨r, rfl, r0, r1, R3, G3⟩
      have hgB : g < B := by omega
      have OA3 := OA1.kept G3 (by right; intro e; have := (OA1.lt g e).1; omega)
      have OB3 := OB1.kept G3 (by right; intro e; have := (OB1.lt g e).1; omega)
      have hI3 := (G3.block _ (Array.getElem?_eq_some_iff.1 hIB).1 (fun e => by injection e with e; omega)).trans hIB
      have G3' := G1.trans G3
      clear OA1 OB1 R1 G1 hIB G3
      by_cases hr : r = 0
      · have t1 : (r == 0) = true := by simp; omega
        clear hr
        have fB := frozen_of_row _ B 1 _ _ hI3
        have zB := cell_of_row _ B 1 _ _ _ hI3
        have S5 := (set1 (i := 1) (v := (.string ⟨#[111, 116, 104, 101, 114]⟩)) hI3).2
        have hI5 : (w3.setCell ⟨B, 1, none⟩ (.string ⟨#[111, 116, 104, 101, 114]⟩)).heap[B]? = some (.cells #[.string a, .string ⟨#[111, 116, 104, 101, 114]⟩, .string s, .int .i64 f] 57 (0, 0)) := by have := (set1 (i := 1) (v := .string ⟨#[111, 116, 104, 101, 114]⟩) hI3).1; simpa using this
        have hHB := hid (show ∀ j, j = B → Nb ≤ j by omega)
        have OA5 := OA3.kept S5 (by
          cases e : (Value.slice (some ad) k d).ownBlock with
          | none => exact .inl rfl
          | some q => exact .inr fun e2 => by injection e2 with e2; have := HXA.out q e; omega)
        have OB5 := OB3.kept S5 (by right; intro e; have := HXB.out B e; omega)
        have RG5 := turn_rows (by have := HNw.out; omega : w.heap.size ≤ B) hgB G3' R3 S5
        have R5 := RG5.1
        have G5 := RG5.2
        have HX := hid (imOk_snoc (x := (a, ⟨#[111, 116, 104, 101, 114]⟩, s, f)) HOK.out HV.out.1 (show (⟨#[111, 116, 104, 101, 114]⟩ : ByteArray).size ≤ 9223372036854775807 by decide) HV.out.2.2)
        clear RG5 S5 OA3 OB3 R3 G3' hI3
        go_wp2_with fail
        clear fB zB
        generalize w3.setCell ⟨B, 1, none⟩ (.string ⟨#[111, 116, 104, 101, 114]⟩) = w5 at *
        generalize (⟨#[111, 116, 104, 101, 114]⟩ : ByteArray) = b' at *
        refine (pick_any g (p' + 1) 4 w5 R5 (by omega) (by omega) (by omega)).mono ?_
        rintro e' w6 ⟨r2, rfl, r3, r4, R6, G6⟩
        have hI6 := (G6.block _ (Array.getElem?_eq_some_iff.1 hI5).1 (fun e => by injection e with e; omega)).trans hI5
        have OA6 := OA5.kept G6 (by right; intro e; have := (OA5.lt g e).1; omega)
        have OB6 := OB5.kept G6 (by right; intro e; have := (OB5.lt g e).1; omega)
        have G6' := G5.trans G6
        have hB6 : B < w6.heap.size := (Array.getElem?_eq_some_iff.1 hI6).1
        have y0 := cell_of_row w6 B 0 _ _ _ hI6
        have y1 := cell_of_row w6 B 1 _ _ _ hI6
        have y2 := cell_of_row w6 B 2 _ _ _ hI6
        have y3 := cell_of_row w6 B 3 _ _ _ hI6
        clear OA5 OB5 R5 G5 hI5 G6
        by_cases hr2 : 0 < r2
        · have t2 : decide (0 < r2) = true := by simpa using hr2
          clear hr2
          have HNb := hid (show Nb ≤ w6.heap.size by omega)
          have OAA := OA6.alloc (.cells (imC (a, b', s, f)).toArray 57)
          have OA := OB6.alloc (.cells (imC (a, b', s, f)).toArray 57)
          go_wp2_with (at_builtin; refine wpList_append_see _ rfl (.tmp 34) (.tmp 36) eltItem rfl Nb _ m (ims ys) rfl OA (some ⟨w6.heap.size, 0, none⟩) 1 1 (imC (a, b', s, f)) rfl (see_new _ (imC (a, b', s, f)) _ _ rfl) (by simp) rfl (imC_one _) (by unfold maxLen; omega) (by omega) (Nat.le_trans HNb.out (by simp)) ?_; intro v4 w4 O4 G9 H9)
          rw [show ims ys ++ imC (a, b', s, f) = ims (ys ++ [(a, b', s, f)]) by simp [flat]] at O4
          have R4 := (R6.alloc (.cells (imC (a, b', s, f)).toArray 57)).grown G9 (fun q hq => by have := (OA.lt q hq).1; omega)
          have G7 := grown_own (G6'.trans (World.grownBy_alloc _ (.cells (imC (a, b', s, f)).toArray 57) _)) OA HNw.out G9
          have OA4 := own_stay OAA OA HXA.out G9
          have hN4 : Nb ≤ w4.heap.size := Nat.le_trans HNb.out (Nat.le_trans (by simp) G9.size)
          obtain ⟨B4, d4, rfl, _⟩ := own_form O4
          clear OAA OA OA6 OB6 R6 G6' G9 H9 hI6 y0 y1 y2 y3
          go_wp2_with fail
          go_roundw
          case rel => exact ⟨j', p' + 1 + 1, m + 1, d4, (j' : Int) - 1, B4, _, by omega, by omega, by go_num, rfl, O4, HX, by omega, OA4, R4, hl3, G7, hN4⟩
          case measure => first | (simp [intOf]; done) | (simp [intOf]; omega)
        · have t2 : decide (0 < r2) = false := by simpa using hr2
          clear hr2
          go_wp2_with fail
          go_roundw
          case rel => exact ⟨j', p' + 1 + 1, m, e, (j' : Int) - 1, C, ys, by omega, by omega, by go_num, rfl, OB6, HOK, by omega, OA6, R6, hl3, G6', by omega⟩
          case measure => first | (simp [intOf]; done) | (simp [intOf]; omega)
      · have t1 : (r == 0) = false := by simpa using hr
        clear hr
        have HX := hid (imOk_snoc (x := (a, b, s, f)) HOK.out HV.out.1 HV.out.2.1 HV.out.2.2)
        have OA5 := OA3
        have OB5 := OB3
        have R5 := R3
        have G5 := G3'
        have hI5 := hI3
        clear OA3 OB3 R3 G3' hI3
        go_wp2_with fail
        generalize w3 = w5 at *
        refine (pick_any g (p' + 1) 4 w5 R5 (by omega) (by omega) (by omega)).mono ?_
        rintro e' w6 ⟨r2, rfl, r3, r4, R6, G6⟩
        have hI6 := (G6.block _ (Array.getElem?_eq_some_iff.1 hI5).1 (fun e => by injection e with e; omega)).trans hI5
        have OA6 := OA5.kept G6 (by right; intro e; have := (OA5.lt g e).1; omega)
        have OB6 := OB5.kept G6 (by right; intro e; have := (OB5.lt g e).1; omega)
        have G6' := G5.trans G6
        have hB6 : B < w6.heap.size := (Array.getElem?_eq_some_iff.1 hI6).1
        have y0 := cell_of_row w6 B 0 _ _ _ hI6
        have y1 := cell_of_row w6 B 1 _ _ _ hI6
        have y2 := cell_of_row w6 B 2 _ _ _ hI6
        have y3 := cell_of_row w6 B 3 _ _ _ hI6
        clear OA5 OB5 R5 G5 hI5 G6
        by_cases hr2 : 0 < r2
        · have t2 : decide (0 < r2) = true := by simpa using hr2
          clear hr2
          have HNb := hid (show Nb ≤ w6.heap.size by omega)
          have OAA := OA6.alloc (.cells (imC (a, b, s, f)).toArray 57)
          have OA := OB6.alloc (.cells (imC (a, b, s, f)).toArray 57)
          go_wp2_with (at_builtin; refine wpList_append_see _ rfl (.tmp 34) (.tmp 36) eltItem rfl Nb _ m (ims ys) rfl OA (some ⟨w6.heap.size, 0, none⟩) 1 1 (imC (a, b, s, f)) rfl (see_new _ (imC (a, b, s, f)) _ _ rfl) (by simp) rfl (imC_one _) (by unfold maxLen; omega) (by omega) (Nat.le_trans HNb.out (by simp)) ?_; intro v4 w4 O4 G9 H9)
          rw [show ims ys ++ imC (a, b, s, f) = ims (ys ++ [(a, b, s, f)]) by simp [flat]] at O4
          have R4 := (R6.alloc (.cells (imC (a, b, s, f)).toArray 57)).grown G9 (fun q hq => by have := (OA.lt q hq).1; omega)
          have G7 := grown_own (G6'.trans (World.grownBy_alloc _ (.cells (imC (a, b, s, f)).toArray 57) _)) OA HNw.out G9
          have OA4 := own_stay OAA OA HXA.out G9
          have hN4 : Nb ≤ w4.heap.size := Nat.le_trans HNb.out (Nat.le_trans (by simp) G9.size)
          obtain ⟨B4, d4, rfl, _⟩ := own_form O4
          clear OAA OA OA6 OB6 R6 G6' G9 H9 hI6 y0 y1 y2 y3
          go_wp2_with fail
          go_roundw
          case rel => exact ⟨j', p' + 1 + 1, m + 1, d4, (j' : Int) - 1, B4, _, by omega, by omega, by go_num, rfl, O4, HX, by omega, OA4, R4, hl3, G7, hN4⟩
          case measure => first | (simp [intOf]; done) | (simp [intOf]; omega)
        · have t2 : decide (0 < r2) = false := by simpa using hr2
          clear hr2
          go_wp2_with fail
          go_roundw
          case rel => exact ⟨j', p' + 1 + 1, m, e, (j' : Int) - 1, C, ys, by omega, by omega, by go_num, rfl, OB6, HOK, by omega, OA6, R6, hl3, G6', by omega⟩
          case measure => first | (simp [intOf]; done) | (simp [intOf]; omega)
    · obtain rfl : t = -1 := by omega
      have hm' : m ≤ 7 := by omega
      have hp2 : p' ≤ p + 5014 := by omega
      clear hm l2 ht hj
      go_wp2_with fail
      refine (pick_any g p' 3 _ R (by omega) (by omega) (by omega)).mono ?_
      rintro e' w3 ⟨q, rfl, q0, q1, R3, G3⟩
      have OA3 := OA.kept G3 (by right; intro e; have := (OA.lt g e).1; omega)
      have OB3 := OB.kept G3 (by right; intro e; have := (OB.lt g e).1; omega)
      have G3' := G.trans G3
      have hNb3 : Nb ≤ w3.heap.size := Nat.le_trans hNb G3.size
      clear OA OB R G G3 hNb
      go_wp2_with fail
      go_loopw [7, 10] (fun v i wr => ∃ (j q' m e : Nat) (C : Option Addr) (ys : List Im), j ≤ 2 ∧ i = .int .i64 j ∧ v = .slice C m e ∧ wr.ownsRow Nb 57 4 (.slice C m e) m (ims ys) ∧ Hid (imOk ys) ∧ m + j ≤ 9 ∧ wr.ownsRow w.heap.size 57 4 (.slice A k d) k (ims xs) ∧ Rd wr g q' ∧ q' ≤ p + 5015 + 601 * (2 - j) ∧ w.grownBy wr (some g) ∧ Nb ≤ wr.heap.size) (fun _ i _ => (intOf i).toNat)
      case atStart =>
        obtain ⟨j, rfl⟩ := Int.eq_ofNat_of_zero_le q0
        exact ⟨j, p' + 1, m, e, C, ys, by omega, rfl, rfl, OB3, HOK, by omega, OA3, R3, by omega, G3', hNb3⟩
      case round =>
        clear OA3 OB3 R3 G3' hNb3 HOK
        obtain ⟨j, q', m, e, C, ys, hj, rfl, rfl, OB, HOK, hm, OA, R, l2, G, hNb⟩ := hrel
        by_cases hj0 : 0 < j
        · go_wp2_with fail
          refine (item_any g q' 0 _ R (by omega) (by omega) (by omega)).mono ?_
          rintro e' w3 ⟨a0, b, s, f, rfl, ha, hb, hs, p3, l5, l6, R3, G4⟩
          have hz4 := G4.size
          have OA3 := OA.kept G4 (by right; intro e; have := (OA.lt g e).1; omega)
          have OB3 := OB.kept G4 (by right; intro e; have := (OB.lt g e).1; omega)
          have hIB : (w3.alloc (.cells #[.string a0, .string b, .string s, .int .i64 f] 57)).heap[w3.heap.size]? = some (.cells #[.string a0, .string b, .string s, .int .i64 f] 57 (0, 0)) := alloc_new' rfl
          have HXB := hid (fun j (h0 : (Value.slice C m e).ownBlock = some j) => (OB3.lt j h0).2)
          have OA6 := OA3.alloc (.cells #[.string a0, .string b, .string s, .int .i64 f] 57)
          have OB6 := OB3.alloc (.cells #[.string a0, .string b, .string s, .int .i64 f] 57)
          have R6 := R3.alloc (.cells #[.string a0, .string b, .string s, .int .i64 f] 57)
          have G6 := (G.trans G4).trans (World.grownBy_alloc w3 (.cells #[.string a0, .string b, .string s, .int .i64 f] 57) _)
          have hl6 : p3 + 1 ≤ p + 5015 + 601 * (2 - (j - 1)) := by omega
          have hNB : Nb ≤ w3.heap.size := by omega
          have hVz : (w3.alloc (.cells #[.string a0, .string b, .string s, .int .i64 f] 57)).heap.size = w3.heap.size + 1 := by simp
          clear OA OB R G G4 R3 OA3 OB3 l2 l5 hNb hz4
          go_wp2_with fail
          generalize hV : w3.alloc (.cells #[.string a0, .string b, .string s, .int .i64 f] 57) = V at *
          generalize hBB : w3.heap.size = B at *
          clear hV hBB
          refine (pick_any g p3 3 _ (R6.alloc _) (by omega) (by omega) (by omega)).mono ?_
          rintro e' w7 ⟨r, rfl, r0, r1, R7, G7⟩
          have hgB : g < B := by omega
          have hVB := (Array.getElem?_eq_some_iff.1 hIB).1
          obtain ⟨a, hx, cx⟩ := litS_at (B := V.heap.size) (L := [⟨#[110, 49]⟩, ⟨#[110, 50]⟩, ⟨#[110, 51]⟩]) (alloc_new' rfl) G7 (by have := R6.lt; omega) r0 (by simpa using r1)
          rw [hVz] at cx
          have hxs : a.size ≤ 200 := by simp at hx; rcases hx with rfl | rfl | rfl <;> decide
          replace G7 := (World.grownBy_alloc V (.cells #[.string ⟨#[110, 49]⟩, .string ⟨#[110, 50]⟩, .string ⟨#[110, 51]⟩] 9) (some g)).trans G7
          have OA7 := OA6.kept G7 (by right; intro e; have := (OA6.lt g e).1; omega)
          have OB7 := OB6.kept G7 (by right; intro e; have := (OB6.lt g e).1; omega)
          have hI7 := (G7.block _ hVB (fun e => by injection e with e; omega)).trans hIB
          have G7' := G6.trans G7
          have HOKI := hid (imOk_snoc (x := (a, b, s, f)) HOK.out (show a.size ≤ 9223372036854775807 by omega) (show b.size ≤ 9223372036854775807 by omega) (show s.size ≤ 9223372036854775807 by omega))
          clear OA6 OB6 R6 G6 hIB G7 hx ha hb hs hxs
          have fB := frozen_of_row _ B 0 _ _ hI7
          have zB := cell_of_row _ B 0 _ _ _ hI7
          have S5 := (set1 (i := 0) (v := (.string a)) hI7).2
          have hIB : (w7.setCell ⟨B, 0, none⟩ (.string a)).heap[B]? = some (.cells #[.string a, .string b, .string s, .int .i64 f] 57 (0, 0)) := by have := (set1 (i := 0) (v := .string a) hI7).1; simpa using this
          have OA8 := OA7.kept S5 (by
            cases e : (Value.slice A k d).ownBlock with
            | none => exact .inl rfl
            | some q => exact .inr fun e2 => by injection e2 with e2; have := HXA.out q e; omega)
          have OB8 := OB7.kept S5 (by right; intro e; have := HXB.out B e; omega)
          have RG5 := turn_rows (by have := HNw.out; omega : w.heap.size ≤ B) hgB G7' R7 S5
          have R8 := RG5.1
          have G8 := RG5.2
          have hz8 : B < (w7.setCell ⟨B, 0, none⟩ (.string a)).heap.size := (Array.getElem?_eq_some_iff.1 hIB).1
          clear RG5 S5 OA7 OB7 R7 G7' hI7
          go_wp2_with fail
          clear fB zB
          generalize w7.setCell ⟨B, 0, none⟩ (.string a) = V8 at *
          have SL := own_sl OB8
          have hcell0 := cell_of_row V8 B 0 _ _ _ hIB
          refine wp_region_live (W := fun _ u => Below V8.heap.size V8 u) (dead := fun i j => i == 5 && (j == 0 || j == 2 || j == 4)) (Tr := fun i a b => TrF i a b) (F := fun i v w' => match i with
              | 0 => ∃ B0, v = .slice (some ⟨B0, 0, none⟩) 0 0 ∧ V8.heap.size ≤ B0 ∧ w'.heap[B0]? = some (.cells #[] 57 (0, 0))
              | 1 => v = .slice C m e
              | 2 => ∃ D d, v = .slice D m d ∧ w'.ownsRow V8.heap.size 57 4 (.slice D m d) m (ims ys)
              | 3 => v = imA a b s f
              | 4 => ∃ B1, v = .slice (some ⟨B1, 0, none⟩) 1 1 ∧ w'.heap[B1]? = some (.cells (imC (a, b, s, f)).toArray 57 (0, 0))
              | 5 => ∃ D d, v = .slice D (m + 1) d ∧ w'.ownsRow V8.heap.size 57 4 (.slice D (m + 1) d) (m + 1) (ims (ys ++ [(a, b, s, f)]))
              | 6 => ∃ t : Bool, v = .bool t
              | _ => True) (by kernel_rfl) (by kernel_rfl) (by kernel_rfl) ?_ ?_ ?_ ?_
          · exact (Below.refl _ _).drew
          · intro i j kk a' b' v hi hj hne hdd haa hW hT hF
            by_cases hi5 : i = 5
            · subst hi5
              match j with
              | 0 => exact absurd hdd (by decide)
              | 2 => exact absurd hdd (by decide)
              | 4 => exact absurd hdd (by decide)
              | 1 => exact hF
              | 3 => exact hF
              | 5 => exact absurd rfl hne
              | 6 => exact hF
              | _ + 7 => trivial
            · have x := hT.get hi5
              match j with
              | 0 => obtain ⟨B0, h1, h2, h3⟩ := hF; exact ⟨B0, h1, h2, (x.block (Array.getElem?_eq_some_iff.1 h3).1).trans h3⟩
              | 1 => exact hF
              | 2 => obtain ⟨D, d, h1, h2⟩ := hF; exact ⟨D, d, h1, own_ext h2 x⟩
              | 3 => exact hF
              | 4 => obtain ⟨B0, h1, h3⟩ := hF; exact ⟨B0, h1, (x.block (Array.getElem?_eq_some_iff.1 h3).1).trans h3⟩
              | 5 => obtain ⟨D, d, h1, h2⟩ := hF; exact ⟨D, d, h1, own_ext h2 x⟩
              | 6 => exact hF
              | _ + 7 => trivial
          · refine ⟨fun kk ρ u hkk hc hf hb hW hd => ?_, ?_⟩
            · have x := (Ext.of.refl u).alloc (.cells #[] 57)
              exact yield_value (w' := u.alloc (.cells #[] 57)) (.slice (some ⟨u.heap.size, 0, none⟩) 0 0) (by simp [go_sem, hc, hf]) ⟨⟨_, rfl, hW.size, alloc_new' rfl⟩, below_next hW x.below, .inr x⟩
            refine ⟨fun kk ρ u hkk hc hf hb hW hd => ?_, ?_⟩
            · exact yield_move _ rfl ⟨hb 7 (by kernel_rfl), hW, .inr (Ext.of.refl _)⟩
            refine ⟨fun kk ρ u hkk hc hf hb hW hd => ?_, ?_⟩
            · obtain ⟨B0, e0, h1, h3⟩ : ∃ B0, ρ (.tmp 52) = .slice (some ⟨B0, 0, none⟩) 0 0 ∧ V8.heap.size ≤ B0 ∧ u.heap[B0]? = some (.cells #[] 57 (0, 0)) := hd.1 rfl rfl
              have e1 : ρ (.tmp 53) = .slice C m e := hd.2.1 rfl rfl
              have S2 := SL.below hW
              have hz := hW.size
              refine yield_append_new (.tmp 52) (.tmp 53) eltItem rfl V8.heap.size _ (.inr ⟨B0, rfl⟩) e0 (own_lit0 h1 h3) C m e (ims ys) e1 S2.see (S2.of_none (by decide)) S2.len (flat_one imC_one _) (by unfold maxLen; omega) (by omega) hz ?_
              intro v' w' O2 nw
              obtain ⟨D, d2, rfl, _⟩ := own_form O2
              exact ⟨⟨D, d2, rfl, O2⟩, below_next hW nw.below, .inr (Ext.of_below nw.below)⟩
            refine ⟨fun kk ρ u hkk hc hf hb hW hd => ?_, ?_⟩
            · have e0 : ρ (.tmp 11) = .pointer (some ⟨B, 0, none⟩) := hb 11 (by kernel_rfl)
              have hX := (hW.block _ (Array.getElem?_eq_some_iff.1 hIB).1).trans hIB
              have y0 := cell_of_row u B 0 _ _ _ hX
              have y1 := cell_of_row u B 1 _ _ _ hX
              have y2 := cell_of_row u B 2 _ _ _ hX
              have y3 := cell_of_row u B 3 _ _ _ hX
              exact yield_value (w' := u) (imA a b s f) (by simp [go_sem, hc, hf, e0, y0, y1, y2, y3]) ⟨rfl, hW, .inr (Ext.of.refl _)⟩
            refine ⟨fun kk ρ u hkk hc hf hb hW hd => ?_, ?_⟩
            · have e0 : ρ (.tmp 55) = imA a b s f := hd.1 rfl rfl
              have x := (Ext.of.refl u).alloc (.cells (imC (a, b, s, f)).toArray 57)
              exact yield_value (w' := u.alloc (.cells (imC (a, b, s, f)).toArray 57)) (.slice (some ⟨u.heap.size, 0, none⟩) 1 1) (by simp [go_sem, hc, hf, e0]) ⟨⟨_, rfl, alloc_new' rfl⟩, below_next hW x.below, .inr x⟩
            refine ⟨fun kk ρ u hkk hc hf hb hW hd => ?_, ?_⟩
            · obtain ⟨D, d2, e0, O2⟩ : ∃ D d, ρ (.tmp 54) = .slice D m d ∧ u.ownsRow V8.heap.size 57 4 (.slice D m d) m (ims ys) := hd.1 rfl rfl
              obtain ⟨B1, e1, h3⟩ : ∃ B1, ρ (.tmp 56) = .slice (some ⟨B1, 0, none⟩) 1 1 ∧ u.heap[B1]? = some (.cells (imC (a, b, s, f)).toArray 57 (0, 0)) := hd.2.1 rfl rfl
              have hz := hW.size
              refine yield_append (.tmp 54) (.tmp 56) eltItem rfl V8.heap.size _ m _ e0 O2 (some ⟨B1, 0, none⟩) 1 1 (imC (a, b, s, f)) e1 (see_lit h3) (by simp) rfl (imC_one _) (by unfold maxLen; omega) (by omega) hz ?_
              intro v' w' O3 G3 _
              rw [show ims ys ++ imC (a, b, s, f) = ims (ys ++ [(a, b, s, f)]) by simp [flat]] at O3
              obtain ⟨D3, d3, rfl, _⟩ := own_form O3
              exact ⟨⟨D3, d3, rfl, O3⟩, hW.grown G3 hz (fun k hk => (O2.lt k hk).1), .inl rfl⟩
            refine ⟨fun kk ρ u hkk hc hf hb hW hd => ?_, ?_⟩
            · obtain ⟨D, d2, e0, O2⟩ : ∃ D d, ρ (.tmp 57) = .slice D (m + 1) d ∧ u.ownsRow V8.heap.size 57 4 (.slice D (m + 1) d) (m + 1) (ims (ys ++ [(a, b, s, f)])) := hd.1 rfl rfl
              refine yield_call 66 #[.slice D (m + 1) d2] (by simp [go_sem, hc, hf, e0]) ?_
              refine (fdS_any D (m + 1) d2 (ys ++ [(a, b, s, f)]) u (own_sl O2) HOKI.out).mono ?_
              rintro e' w' ⟨rfl, x⟩
              exact ⟨_, rfl, ⟨_, rfl⟩, below_next hW x.below, .inr x⟩
            trivial
          intro env w5 hW hF
          obtain ⟨t, e6⟩ : ∃ t : Bool, env 6 = .bool t := hF 6 (of_decide_eq_true (by kernel_rfl)) (fun i hi => by match i with | 0 | 1 | 2 | 3 | 4 | 5 | 6 => rfl | _ + 7 => simp at hi; omega)
          clear hF SL hcell0
          have hrng : List.range 65 = [0, 1, 2, 3, 4, 5, 6, 7, 8, 9, 10, 11, 12, 13, 14, 15, 16, 17, 18, 19, 20, 21, 22, 23, 24, 25, 26, 27, 28, 29, 30, 31, 32, 33, 34, 35, 36, 37, 38, 39, 40, 41, 42, 43, 44, 45, 46, 47, 48, 49, 50, 51, 52, 53, 54, 55, 56, 57, 58, 59, 60, 61, 62, 63, 64] := by kernel_rfl
          unfold after
          simp only [List.size_toArray, List.length_cons, List.length_nil, Nat.reduceAdd, hrng, List.map_cons, List.map_nil]
          simp [idxOf, List.findIdx?, List.findIdx?.go, e6]
          clear hrng e6
          have OA9 := own_below OA8 hW
          have OB9 := own_below OB8 hW
          have R9 := R8.below hW
          have G9 := grown_below G8 hW
          have hz9 := hW.size
          replace hIB := (hW.block _ (Array.getElem?_eq_some_iff.1 hIB).1).trans hIB
          have y0 := cell_of_row w5 B 0 _ _ _ hIB
          have y1 := cell_of_row w5 B 1 _ _ _ hIB
          have y2 := cell_of_row w5 B 2 _ _ _ hIB
          have y3 := cell_of_row w5 B 3 _ _ _ hIB
          clear OA8 OB8 R8 G8 hW
          cases t with
          | false =>
            go_wp2_with fail
            refine ⟨?_, ?_⟩
            · (repeat apply Exists.intro)
              refine ⟨?_, rfl⟩
              exact ⟨j - 1, p3 + 1, m, e, C, ys, by omega, by go_num, rfl, OB9, HOK, by omega, OA9, R9, hl6, G9, by omega⟩
            · simp [intOf]; omega
          | true =>
            have HNb := hid (show Nb ≤ w5.heap.size by omega)
            have OAA := OA9.alloc (.cells (imC (a, b, s, f)).toArray 57)
            have hzA := G9.size
            have OA := OB9.alloc (.cells (imC (a, b, s, f)).toArray 57)
            go_wp2_with (at_builtin; refine wpList_append_see _ rfl (.tmp 59) (.tmp 61) eltItem rfl Nb _ m (ims ys) rfl OA (some ⟨w5.heap.size, 0, none⟩) 1 1 (imC (a, b, s, f)) rfl (see_new _ (imC (a, b, s, f)) _ _ rfl) (by simp) rfl (imC_one _) (by unfold maxLen; omega) (by omega) (Nat.le_trans HNb.out (by simp)) ?_; intro v4 w4 O4 G6 H6)
            rw [show ims ys ++ imC (a, b, s, f) = ims (ys ++ [(a, b, s, f)]) by simp [flat]] at O4
            have R4 := (R9.alloc (.cells (imC (a, b, s, f)).toArray 57)).grown G6 (fun q hq => by have := (OA.lt q hq).1; omega)
            have G7 := grown_own (G9.trans (World.grownBy_alloc _ (.cells (imC (a, b, s, f)).toArray 57) _)) OA HNw.out G6
            have OA4 := own_stay OAA OA HXA.out G6
            have hN4 : Nb ≤ w4.heap.size := Nat.le_trans HNb.out (Nat.le_trans (by simp) G6.size)
            obtain ⟨B4, d4, rfl, _⟩ := own_form O4
            clear OAA OA OA9 OB9 R9 G9 G6 H6 y0 y1 y2 y3
            go_wp2_with fail
            refine ⟨?_, ?_⟩
            · (repeat apply Exists.intro)
              refine ⟨?_, rfl⟩
              exact ⟨j - 1, p3 + 1, m + 1, d4, B4, _, by omega, by go_num, rfl, O4, HOKI, by omega, OA4, R4, hl6, G7, hN4⟩
            · simp [intOf]; omega
        · have t0 : decide ((0 : Int) < (j : Int)) = false := by simp; omega
          have t3 : decide (0 < j) = false := by simp; omega
          have OB := own_lower OB HNw.out
          have l9 : q' ≤ 0 + (p + 7000) := by omega
          have hm9 : m ≤ 9 := by omega
          go_wp2_with fail
          go_ret2
          exact ⟨_, _, _, xs, _, _, _, ys, rfl, OA, OB, HOKA.out, HOK.out, hk7, hm9, q', Nat.zero_le _, l9, R, G⟩
end Go.Proofs.Ytlfjnaeepblhiaa
