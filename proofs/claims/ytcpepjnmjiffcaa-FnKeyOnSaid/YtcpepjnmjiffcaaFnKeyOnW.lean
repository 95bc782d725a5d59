/- The walk of FnKeyOn: it returns true and turns nothing that was there. -/
import Derived.Test.YtcpepjnmjiffcaaDrawTurn2
import Derived.Test.YtcpepjnmjiffcaaKeyEq
namespace Go.Proofs.Ytcpepjnmjiffcaa.fnKeyOn
open Go.RowKit
set_option linter.unusedVariables false
set_option linter.unusedSimpArgs false
theorem key_cases (ys : List Tn) (day : Int) : (keyOnV ys day = ((0, 0, 0), false) ∧ (tnV ys = false ∨ (tnV ys = true ∧ ys = []))) ∨
    (∃ d a b e, ys[0]? = some (d, a, b, e) ∧ tnV ys = true ∧ (keyOnV ys day).2 = decide (d ≤ day) ∧ keyOnV ys (d - 1) = ((0, 0, 0), false) ∧ 0 ≤ d ∧ d ≤ 1000000000) := by
  cases h : tnV ys with
  | false => exact .inl ⟨keyOn_no h, .inl rfl⟩
  | true =>
    cases ys with
    | nil => exact .inl ⟨by rw [keyOn_yes h]; rfl, .inr ⟨rfl, rfl⟩⟩
    | cons y ys =>
      obtain ⟨d, a, b, e⟩ := y
      exact .inr ⟨d, a, b, e, rfl, rfl, keyOn_when rfl h, keyOn_early rfl h (by omega), tn_day h (i := 0) (d := d) (a := a) (b := b) (e := e) rfl⟩
set_option maxHeartbeats 2000000 in
theorem walk (a0 : Option Addr) (len0 cap0 : Nat) (z0 : List Int) (w : World) (w0 : Row .u8 w a0 len0 cap0 z0) :
    Calls Try.prog 6 #[.slice a0 len0 cap0] w fun e w' => e = .returned (.bool true) ∧ Below w.heap.size w w' := by
  have hmax := w0.sl.max
  have hcap := w0.sl.cap
  unfold maxLen at hmax
  by_cases hn : 1048576 < len0
  · go_enter Try.func6, Try.ntmps6
    go_wp2
    go_ret
    exact ⟨rfl, Below.refl _ _⟩
  · go_enter Try.func6, Try.ntmps6
    go_wp2_with fail
    refine (drawKeyOn_any _ _ _ _ _ w0).mono ?_
    rintro e0 w1 ⟨B1, k1, d1, ys, q, rfl, o1, hk1, q0, q1, T1⟩
    clear w0 hmax hcap hn
    obtain ⟨a1, b1, e1, p1, hV⟩ : ∃ a b e p, keyOnV ys q = ((a, b, e), p) := ⟨_, _, _, _, rfl⟩
    have CI := fun A n c W (hW : Sl W A n c 4 (tns ys)) => keyOnI_any A n c ys q W hW
    have CS := fun A n c W (hW : Sl W A n c 4 (tns ys)) => keyOnS_any A n c ys q W hW
    have CT := fun A n c W (hW : Sl W A n c 4 (tns ys)) => tnI_any A n c ys W hW
    rw [hV] at CI CS
    dsimp only [KeyRes] at CI CS
    have hN := neqKey a1 b1 e1
    have hc := key_cases ys q
    rw [hV] at hc
    clear hV
    have hcs := hid hc
    clear hc
    have hl1 := own_count o1 tnC_len (by omega)
    have HL1 := hid hl1
    clear hl1
    go_wp2_with fail
    refine (CI _ _ _ _ (own_sl o1)).mono ?_
    rintro e0 w2 ⟨rfl, x2⟩
    have g2 : (w2.alloc (.cells #[.int .i64 a1, .int .i64 b1, .int .i64 e1] 30)).heap[w2.heap.size]? = some (.cells #[.int .i64 a1, .int .i64 b1, .int .i64 e1] 30 (0, 0)) := alloc_new' rfl
    have o2 := (own_ext o1 x2).alloc (.cells #[.int .i64 a1, .int .i64 b1, .int .i64 e1] 30)
    have T2 := below_next T1 x2.below
    have T2 := T2.alloc T2.size (.cells #[.int .i64 a1, .int .i64 b1, .int .i64 e1] 30)
    clear CI o1 x2 T1
    have HG2 := hid g2
    clear g2
    go_wp2_with fail
    refine (CS _ _ _ _ (own_sl o2)).mono ?_
    rintro e0 w3 ⟨rfl, x3⟩
    have g2 := (x3.block (Array.getElem?_eq_some_iff.1 HG2.out).1).trans HG2.out
    have g2 := alloc_old (o := (.cells #[.int .i64 a1, .int .i64 b1, .int .i64 e1] 30)) g2
    have g3 : (w3.alloc (.cells #[.int .i64 a1, .int .i64 b1, .int .i64 e1] 30)).heap[w3.heap.size]? = some (.cells #[.int .i64 a1, .int .i64 b1, .int .i64 e1] 30 (0, 0)) := alloc_new' rfl
    have o3 := (own_ext o2 x3).alloc (.cells #[.int .i64 a1, .int .i64 b1, .int .i64 e1] 30)
    have T3 := below_next T2 x3.below
    have T3 := T3.alloc T3.size (.cells #[.int .i64 a1, .int .i64 b1, .int .i64 e1] 30)
    clear CS o2 x3 T2 HG2
    have k20 := cell_of_row _ w2.heap.size 0 _ _ _ g2
    have k21 := cell_of_row _ w2.heap.size 1 _ _ _ g2
    have k22 := cell_of_row _ w2.heap.size 2 _ _ _ g2
    have k30 := cell_of_row _ w3.heap.size 0 _ _ _ g3
    have k31 := cell_of_row _ w3.heap.size 1 _ _ _ g3
    have k32 := cell_of_row _ w3.heap.size 2 _ _ _ g3
    have HG2 := hid g2
    clear g2 g3
    go_wp2_with fail
    clear k20 k21 k22 k30 k31 k32
    rcases hcs.out with ⟨hz, hc⟩ | ⟨d, a, b, e, hx, hv, hp, he, hd0, hd1⟩
    · simp only [Prod.mk.injEq] at hz
      obtain ⟨⟨rfl, rfl, rfl⟩, rfl⟩ := hz
      have hE := eqlKey 0 0 0
      rcases hc with hv | ⟨hv, hy⟩
      · rw [hv] at CT
        clear hv hcs
        refine (CT _ _ _ _ (own_sl o3)).mono ?_
        rintro e0 w4 ⟨rfl, x4⟩
        have T4 := below_next T3 x4.below
        have g2 := (x4.block (Array.getElem?_eq_some_iff.1 HG2.out).1).trans HG2.out
        have k20 := cell_of_row _ w2.heap.size 0 _ _ _ g2
        have k21 := cell_of_row _ w2.heap.size 1 _ _ _ g2
        have k22 := cell_of_row _ w2.heap.size 2 _ _ _ g2
        clear g2 HG2 x4 T3 o3
        go_wp2_with (go_at_call 20; refine (alive_any _).mono ?_; rintro e w' ⟨rfl, rfl⟩)
        go_ret
        exact ⟨rfl, T4⟩
      · rw [hv] at CT
        obtain rfl : k1 = 0 := by rw [HL1.out, hy]; rfl
        clear hv hcs hy HL1
        refine (CT _ _ _ _ (own_sl o3)).mono ?_
        rintro e0 w4 ⟨rfl, x4⟩
        have T4 := below_next T3 x4.below
        have g2 := (x4.block (Array.getElem?_eq_some_iff.1 HG2.out).1).trans HG2.out
        have k20 := cell_of_row _ w2.heap.size 0 _ _ _ g2
        have k21 := cell_of_row _ w2.heap.size 1 _ _ _ g2
        have k22 := cell_of_row _ w2.heap.size 2 _ _ _ g2
        clear g2 HG2 x4 T3 o3
        go_wp2_with (go_at_call 20; refine (alive_any _).mono ?_; rintro e w' ⟨rfl, rfl⟩)
        go_ret
        exact ⟨rfl, T4⟩
    · have CE := fun A n c W (hW : Sl W A n c 4 (tns ys)) => keyOnI_any A n c ys (d - 1) W hW
      rw [he] at CE
      rw [hv] at CT
      dsimp only [KeyRes] at CE
      have hk0 : 0 < k1 := by have := (List.getElem?_eq_some_iff.1 hx).1; have := HL1.out; omega
      have t0 : ((k1 : Int) == 0) = false := by simp; omega
      have HV := hid hv
      have HX := hid hx
      have HP := hid hp
      have hw := IntWalk.i64_in (d - 1) ⟨by omega, by omega⟩
      clear hcs hx hv he hp HG2
      refine (CT _ _ _ _ (own_sl o3)).mono ?_
      rintro e0 w4 ⟨rfl, x4⟩
      have o4 := own_ext o3 x4
      have T4 := below_next T3 x4.below
      clear x4 T3 o3 CT
      go_wp2_with fail
      go_loopw [9] (fun i wr => ∃ k : Nat, k ≤ k1 ∧ i = .int .i64 k ∧ wr.ownsRow w.heap.size 39 4 (.slice B1 k1 d1) k1 (tns ys) ∧ Below w.heap.size w wr) (fun i _ => k1 - (intOf i).toNat)
      case atStart => exact ⟨0, Nat.zero_le _, rfl, o4, T4⟩
      case round =>
        obtain ⟨k, hk, rfl, O, TT⟩ := hrel
        clear o4 T4
        by_cases hlt : k < k1
        · obtain ⟨ad, d2, a2, b2, e2, hA, hab, c0, c1, c2, c3⟩ := (own_sl O).tn hlt
          subst hA
          have CK := fun A n c W (hW : Sl W A n c 4 (tns ys)) => keyOnI_any A n c ys d2 W hW
          rw [keyOn_at HV.out hab] at CK
          dsimp only [KeyRes] at CK
          have hN2 := neqKey a2 b2 e2
          have SO := own_sl O
          clear hab CE
          go_wp2_with fail
          refine (CK _ _ _ _ SO).mono ?_
          rintro e0 w5 ⟨rfl, x5⟩
          have X5 : Ext.of wr (w5.alloc (.cells #[.int .i64 a2, .int .i64 b2, .int .i64 e2] 30)) := x5.alloc _
          have g5 : (w5.alloc (.cells #[.int .i64 a2, .int .i64 b2, .int .i64 e2] 30)).heap[w5.heap.size]? = some (.cells #[.int .i64 a2, .int .i64 b2, .int .i64 e2] 30 (0, 0)) := alloc_new' rfl
          have O5 := own_ext O X5
          have T5 := below_next TT X5.below
          have p1' := X5.cell c1
          have p2' : (w5.alloc (.cells #[.int .i64 a2, .int .i64 b2, .int .i64 e2] 30)).cell? ⟨(ad.add (k * 4)).block, (ad.add (k * 4)).off + 1 + 1, none⟩ = _ := X5.cell c2
          have p3' : (w5.alloc (.cells #[.int .i64 a2, .int .i64 b2, .int .i64 e2] 30)).cell? ⟨(ad.add (k * 4)).block, (ad.add (k * 4)).off + 1 + 2, none⟩ = _ := X5.cell c3
          have v0 := cell_of_row _ w5.heap.size 0 _ _ _ g5
          have v1 := cell_of_row _ w5.heap.size 1 _ _ _ g5
          have v2 := cell_of_row _ w5.heap.size 2 _ _ _ g5
          clear O TT SO c0 c1 c2 c3 g5 X5 x5 CK
          go_wp2_with fail
          generalize w5.alloc (.cells #[.int .i64 a2, .int .i64 b2, .int .i64 e2] 30) = W at *
          have p1' := more_cell p1'
          have p2' := more_cell p2'
          have p3' := more_cell p3'
          have v0 := more_cell v0
          have v1 := more_cell v1
          have v2 := more_cell v2
          refine wp_region_more (by kernel_rfl) (by kernel_rfl) ?_
          repeat (go_big_quiet_step (fail))
          refine wpQuiet_nil ?_
          rintro _ ⟨z, rfl⟩
          have O6 := own_ext O5 ⟨z, rfl⟩
          have T6 := below_next T5 (more_below _ z)
          clear O5 T5 p1' p2' p3' v0 v1 v2
          go_wp2_with fail
          go_roundw
          case rel => exact ⟨k + 1, by omega, by go_num, O6, T6⟩
          case measure => simp [intOf]; omega
        · obtain rfl : k = k1 := by omega
          obtain ⟨ad, d2, a2, b2, e2, hA, hab, c0, c1, c2, c3⟩ := (own_sl O).tn (j := 0) hk0
          subst hA
          have hdd : d2 = d := by have h := HX.out; rw [hab] at h; injection h with h; injection h with h
          subst hdd
          rw [Nat.zero_mul, addr_zero] at c0
          have SO := own_sl O
          clear hab c1 c2 c3
          go_wp2_with fail
          refine (CE _ _ _ _ SO).mono ?_
          rintro e0 w5 ⟨rfl, x5⟩
          have c0 := (x5.alloc (.cells #[.int .i64 0, .int .i64 0, .int .i64 0] 30)).cell c0
          have T5 := below_next TT (x5.alloc (.cells #[.int .i64 0, .int .i64 0, .int .i64 0] 30)).below
          have hq : (p1 == decide (d2 ≤ q)) = true := by rw [HP.out]; simp
          clear O TT SO CE x5
          go_wp2_with fail
          go_ret
          exact ⟨rfl, T5⟩
end Go.Proofs.Ytcpepjnmjiffcaa.fnKeyOn
