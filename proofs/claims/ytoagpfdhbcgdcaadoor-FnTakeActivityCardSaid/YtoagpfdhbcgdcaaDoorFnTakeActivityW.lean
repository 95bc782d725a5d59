/- The walk of FnTakeActivity: it returns true and turns nothing that was there. -/
import Derived.Test.YtoagpfdhbcgdcaaDoorDrawTake
import Derived.Test.YtoagpfdhbcgdcaaDoorPlainTake
import Derived.Test.YtoagpfdhbcgdcaaDoorTakeS
import Derived.Test.YtoagpfdhbcgdcaaDoorTakeI
import Derived.Test.YtoagpfdhbcgdcaaDoorIbMark
namespace Go.Proofs.YtoagpfdhbcgdcaaDoor.fnTakeActivity
open Go.RowKit
set_option linter.unusedVariables false
set_option linter.unusedSimpArgs false
set_option maxRecDepth 8000
theorem beq_i (x : Int) : (x == x) = true := by simp
/-- The boxes that the law lays: two cells, five cells. -/
theorem cells2 {w : World} {g : Nat} {x y : Value} {T : TypeId} (h : w.heap[g]? = some (.cells #[x, y] T (0, 0))) : w.cell? ⟨g, 0, none⟩ = some x ∧ w.cell? ⟨g, 1, none⟩ = some y := ⟨cell_of_row _ g 0 _ _ _ h, cell_of_row _ g 1 _ _ _ h⟩
theorem cells5 {w : World} {g : Nat} {x y z u v : Value} {T : TypeId} (h : w.heap[g]? = some (.cells #[x, y, z, u, v] T (0, 0))) : w.cell? ⟨g, 0, none⟩ = some x ∧ w.cell? ⟨g, 1, none⟩ = some y ∧ w.cell? ⟨g, 2, none⟩ = some z ∧ w.cell? ⟨g, 3, none⟩ = some u ∧ w.cell? ⟨g, 4, none⟩ = some v :=
  ⟨cell_of_row _ g 0 _ _ _ h, cell_of_row _ g 1 _ _ _ h, cell_of_row _ g 2 _ _ _ h, cell_of_row _ g 3 _ _ _ h, cell_of_row _ g 4 _ _ _ h⟩
theorem keepB {w w' : World} {g : Nat} {o : Obj} (h : w.heap[g]? = some o) (B : Below w.heap.size w w') : w'.heap[g]? = some o := (B.block _ (Array.getElem?_eq_some_iff.1 h).1).trans h
theorem nextB {B : Nat} {w w1 w2 : World} (h : Below B w w1) (h' : Below w1.heap.size w1 w2) (hB : B ≤ w1.heap.size) : Below B w w2 := h.trans (h'.mono hB)
set_option maxHeartbeats 8000000 in
theorem walk (a0 : Option Addr) (len0 cap0 : Nat) (z0 : List Int) (w : World) (hK : KW w) (w0 : Row .u8 w a0 len0 cap0 z0) :
    Calls Tryd.prog 3 #[.slice a0 len0 cap0] w fun e w' => e = .returned (.bool true) ∧ Below w.heap.size w w' := by
  have hmax := w0.sl.max
  have hcap := w0.sl.cap
  unfold maxLen at hmax
  by_cases hn : 1048576 < len0
  · go_enter Tryd.func3, Tryd.ntmps3
    go_wp2
    go_ret
    exact ⟨rfl, Below.refl _ _⟩
  · go_enter Tryd.func3, Tryd.ntmps3
    go_wp2_with fail
    refine (drawTake_any _ _ _ _ _ w0).mono ?_
    rintro e w1 ⟨C, n, c, D, m, d, xs, zs, kd, mk, a, b, s, rfl, o1, o2, hok, hn1, hm1, ha, hb, hs, T1⟩
    have HOK := hid hok
    have K1 := hK.below T1
    have hx : ((w1.alloc (.cells #[.slice C n c, .slice D m d] 26)).alloc (.cells #[.int .i64 kd, .int .i64 mk, .string a, .string b, .string s] 30)).heap[w1.heap.size]? = some (.cells #[.slice C n c, .slice D m d] 26 (0, 0)) := alloc_old (alloc_new' rfl)
    have hA : ((w1.alloc (.cells #[.slice C n c, .slice D m d] 26)).alloc (.cells #[.int .i64 kd, .int .i64 mk, .string a, .string b, .string s] 30)).heap[w1.heap.size + 1]? = some (.cells #[.int .i64 kd, .int .i64 mk, .string a, .string b, .string s] 30 (0, 0)) := alloc_new' (by simp)
    have E1 : Ext.of w1 ((w1.alloc (.cells #[.slice C n c, .slice D m d] 26)).alloc (.cells #[.int .i64 kd, .int .i64 mk, .string a, .string b, .string s] 30)) := ((Ext.of.refl _).alloc _).alloc _
    have S1 := (own_sl o1).ext E1
    have S2 := (own_sl o2).ext E1
    have T2 := below_next T1 E1.below
    have K2 := K1.ext E1
    clear w0 hmax hcap hn hok o1 o2 T1 K1 E1 hK
    have TS := fun W (h1 : Sl W C n c 2 (hds xs)) (h2 : Sl W D m d 1 (ints zs)) => takeS_any C n c xs D m d zs kd mk a b s W h1 HOK.out h2 (by omega) (by omega) (by omega)
    have TI := fun W (hW : KW W) (h1 : Sl W C n c 2 (hds xs)) (h2 : Sl W D m d 1 (ints zs)) => takeI_any C n c xs D m d zs kd mk a b s W hW h1 HOK.out h2 (by omega) (by omega) (by omega)
    have HF := tkF_ok (zs := zs) (kd := kd) (mk := mk) (a := a) (b := b) (s := s) HOK.out (by omega) (by omega)
    have T3 := fun W (hW : KW W) C n c D m d (h1 : Sl W C n c 2 (hds (tkF xs zs kd mk a b s))) (h2 : Sl W D m d 1 (ints (tkZ xs zs kd mk a b s))) => takeI_any C n c _ D m d _ kd mk a b s W hW h1 HF h2 (by omega) (by omega) (by omega)
    have LH := hid (tk_law xs zs kd mk a b s)
    have CV := fun W C n c D m d (h1 : Sl W C n c 2 (hds (tkF xs zs kd mk a b s))) (h2 : Sl W D m d 1 (ints (tkZ xs zs kd mk a b s))) => ibI_any C n c _ D m d _ W h1 HF h2
    generalize hF2 : tkF (tkF xs zs kd mk a b s) (tkZ xs zs kd mk a b s) kd mk a b s = F2 at *
    generalize hZ2 : tkZ (tkF xs zs kd mk a b s) (tkZ xs zs kd mk a b s) kd mk a b s = Z2 at *
    generalize hq2 : tkN (tkF xs zs kd mk a b s) (tkZ xs zs kd mk a b s) kd mk a b s = q2 at *
    clear hF2 hZ2 hq2
    generalize tkF xs zs kd mk a b s = F at *
    generalize tkZ xs zs kd mk a b s = Z at *
    generalize tkN xs zs kd mk a b s = q at *
    go_wp2_with fail
    generalize (w1.alloc (.cells #[.slice C n c, .slice D m d] 26)).alloc (.cells #[.int .i64 kd, .int .i64 mk, .string a, .string b, .string s] 30) = V at *
    generalize hg : w1.heap.size = g at *
    clear hg
    obtain ⟨x0, x1⟩ := cells2 hx
    obtain ⟨y0, y1, y2, y3, y4⟩ := cells5 hA
    clear HF
    go_wp2_with fail
    refine (TI _ K2 S1 S2).mono ?_
    rintro e w2 ⟨⟨C2, n2, c2, D2, m2, d2, rfl, O1, P1, _, _⟩, B2⟩
    have S3 := own_sl O1
    have S4 := P1
    clear O1 P1 TI x0 x1 y0 y1 y2 y3 y4
    replace hx := keepB hx B2
    replace hA := keepB hA B2
    replace S1 := S1.below B2
    replace S2 := S2.below B2
    replace T2 := below_next T2 B2
    replace K2 := K2.below B2
    clear B2
    have hy : (w2.alloc (.cells #[.slice C2 n2 c2, .slice D2 m2 d2] 26)).heap[w2.heap.size]? = some (.cells #[.slice C2 n2 c2, .slice D2 m2 d2] 26 (0, 0)) := alloc_new' rfl
    have E3 : Ext.of w2 (w2.alloc (.cells #[.slice C2 n2 c2, .slice D2 m2 d2] 26)) := (Ext.of.refl _).alloc _
    replace hx := keepB hx E3.below
    replace hA := keepB hA E3.below
    replace S1 := S1.ext E3
    replace S2 := S2.ext E3
    replace S3 := S3.ext E3
    replace S4 := S4.ext E3
    replace T2 := below_next T2 E3.below
    replace K2 := K2.ext E3
    clear E3
    obtain ⟨x0, x1⟩ := cells2 hx
    obtain ⟨y0, y1, y2, y3, y4⟩ := cells5 hA
    go_wp2_with fail
    generalize w2.alloc (.cells #[.slice C2 n2 c2, .slice D2 m2 d2] 26) = V2 at *
    generalize hg : w2.heap.size = g2 at *
    clear hg
    obtain ⟨x0, x1⟩ := cells2 hx
    obtain ⟨y0, y1, y2, y3, y4⟩ := cells5 hA
    go_wp2_with fail
    refine (TS _ S1 S2).mono ?_
    rintro e w3 ⟨⟨C3, n3, c3, D3, m3, d3, rfl, O1, P1, _, _⟩, B2⟩
    have S5 := own_sl O1
    have S6 := P1
    clear O1 P1 TS x0 x1 y0 y1 y2 y3 y4
    replace hx := keepB hx B2
    replace hA := keepB hA B2
    replace hy := keepB hy B2
    replace S1 := S1.below B2
    replace S2 := S2.below B2
    replace S3 := S3.below B2
    replace S4 := S4.below B2
    replace T2 := below_next T2 B2
    replace K2 := K2.below B2
    clear B2
    have hz : (w3.alloc (.cells #[.slice C3 n3 c3, .slice D3 m3 d3] 26)).heap[w3.heap.size]? = some (.cells #[.slice C3 n3 c3, .slice D3 m3 d3] 26 (0, 0)) := alloc_new' rfl
    have E3 : Ext.of w3 (w3.alloc (.cells #[.slice C3 n3 c3, .slice D3 m3 d3] 26)) := (Ext.of.refl _).alloc _
    replace hx := keepB hx E3.below
    replace hA := keepB hA E3.below
    replace hy := keepB hy E3.below
    replace S1 := S1.ext E3
    replace S2 := S2.ext E3
    replace S3 := S3.ext E3
    replace S4 := S4.ext E3
    replace S5 := S5.ext E3
    replace S6 := S6.ext E3
    replace T2 := below_next T2 E3.below
    replace K2 := K2.ext E3
    clear E3
    obtain ⟨u0, u1⟩ := cells2 hy
    obtain ⟨v0, v1⟩ := cells2 hz
    go_wp2_with fail
    generalize w3.alloc (.cells #[.slice C3 n3 c3, .slice D3 m3 d3] 26) = V3 at *
    generalize hg : w3.heap.size = g3 at *
    clear hg
    refine (sameInbox_same _ _ _ _ _ _ _ _ _ _ _ _ F Z _ S3 S4 S5 S6).mono ?_
    rintro e w4 ⟨rfl, X⟩
    have B2 := X.below
    clear X u0 u1 v0 v1 S5 S6 hz
    replace hx := keepB hx B2
    replace hA := keepB hA B2
    replace hy := keepB hy B2
    replace S1 := S1.below B2
    replace S2 := S2.below B2
    replace S3 := S3.below B2
    replace S4 := S4.below B2
    replace T2 := below_next T2 B2
    replace K2 := K2.below B2
    clear B2
    have hq := beq_i q
    rcases LH.out with ⟨rfl, rfl, rfl⟩ | ⟨L1, L2, rfl, rfl, rfl⟩
    · clear hq
      obtain ⟨u0, u1⟩ := cells2 hy
      go_wp2_with fail
      refine (sameInbox_same _ _ _ _ _ _ none 0 0 none 0 0 [] [] _ S3 S4 (Sl.nil_ _ _) (Sl.nil_ _ _)).mono ?_
      rintro e w5 ⟨rfl, X⟩
      replace T2 := below_next T2 X.below
      clear X u0 u1
      go_wp2_with (go_at_call 11; refine (alive_any _).mono ?_; rintro e w' ⟨rfl, rfl⟩)
      go_ret
      exact ⟨rfl, T2⟩
    · rw [L2] at CV
      have q0 : decide (q < 0) = false := by rw [decide_eq_false_iff_not]; rcases L1 with h | ⟨h, _⟩ <;> omega
      have HL1 := hid L1
      clear L1 L2
      obtain ⟨u0, u1⟩ := cells2 hy
      obtain ⟨y0, y1, y2, y3, y4⟩ := cells5 hA
      go_wp2_with fail
      refine (T3 _ K2 _ _ _ _ _ _ S3 S4).mono ?_
      rintro e w5 ⟨⟨C4, n4, c4, D4, m4, d4, rfl, O1, P1, _, _⟩, B2⟩
      have S5 := own_sl O1
      have S6 := P1
      clear O1 P1 T3 u0 u1 y0 y1 y2 y3 y4 q0 hq
      replace hx := keepB hx B2
      replace hA := keepB hA B2
      replace hy := keepB hy B2
      replace S1 := S1.below B2
      replace S2 := S2.below B2
      replace S3 := S3.below B2
      replace S4 := S4.below B2
      replace T2 := below_next T2 B2
      replace K2 := K2.below B2
      clear B2
      have hs5 : (w5.alloc (.cells #[.slice C4 n4 c4, .slice D4 m4 d4] 26)).heap[w5.heap.size]? = some (.cells #[.slice C4 n4 c4, .slice D4 m4 d4] 26 (0, 0)) := alloc_new' rfl
      have E3 : Ext.of w5 (w5.alloc (.cells #[.slice C4 n4 c4, .slice D4 m4 d4] 26)) := (Ext.of.refl _).alloc _
      replace hx := keepB hx E3.below
      replace hA := keepB hA E3.below
      replace hy := keepB hy E3.below
      replace S1 := S1.ext E3
      replace S2 := S2.ext E3
      replace S3 := S3.ext E3
      replace S4 := S4.ext E3
      replace S5 := S5.ext E3
      replace S6 := S6.ext E3
      replace T2 := below_next T2 E3.below
      replace K2 := K2.ext E3
      clear E3
      obtain ⟨u0, u1⟩ := cells2 hy
      go_wp2_with fail
      generalize w5.alloc (.cells #[.slice C4 n4 c4, .slice D4 m4 d4] 26) = V4 at *
      generalize hg : w5.heap.size = g4 at *
      clear hg
      refine (CV _ _ _ _ _ _ _ S3 S4).mono ?_
      rintro e w6 ⟨rfl, X⟩
      have B2 := X.below
      clear X u0 u1 CV
      replace hx := keepB hx B2
      replace hA := keepB hA B2
      replace hy := keepB hy B2
      replace hs5 := keepB hs5 B2
      replace S1 := S1.below B2
      replace S2 := S2.below B2
      replace S3 := S3.below B2
      replace S4 := S4.below B2
      replace S5 := S5.below B2
      replace S6 := S6.below B2
      replace T2 := below_next T2 B2
      replace K2 := K2.below B2
      clear B2
      obtain ⟨u0, u1⟩ := cells2 hy
      obtain ⟨v0, v1⟩ := cells2 hs5
      go_wp2_with fail
      refine (sameInbox_same _ _ _ _ _ _ _ _ _ _ _ _ F2 Z2 _ S5 S6 S3 S4).mono ?_
      rintro e w7 ⟨rfl, X⟩
      have B2 := X.below
      clear X u0 u1 v0 v1 S5 S6 hs5
      replace hx := keepB hx B2
      replace hA := keepB hA B2
      replace hy := keepB hy B2
      replace S1 := S1.below B2
      replace S2 := S2.below B2
      replace S3 := S3.below B2
      replace S4 := S4.below B2
      replace T2 := below_next T2 B2
      replace K2 := K2.below B2
      clear B2
      rcases HL1.out with rfl | ⟨rfl, rfl, rfl⟩
      · go_wp2_with fail
        go_ret
        exact ⟨rfl, T2⟩
      · skip
        obtain ⟨u0, u1⟩ := cells2 hy
        obtain ⟨x0, x1⟩ := cells2 hx
        go_wp2_with fail
        refine (sameInbox_same _ _ _ _ _ _ _ _ _ _ _ _ F2 Z2 _ S3 S4 S1 S2).mono ?_
        rintro e w8 ⟨rfl, X⟩
        replace T2 := below_next T2 X.below
        clear X
        go_wp2_with fail
        go_ret
        exact ⟨rfl, T2⟩
end Go.Proofs.YtoagpfdhbcgdcaaDoor.fnTakeActivity
