/- The walk of FnTakeLines: it returns true and turns nothing that was there. -/
import Derived.Test.YtoagpfdhbcgdcaaDoorDrawTl
import Derived.Test.YtoagpfdhbcgdcaaDoorDrawTake
import Derived.Test.YtoagpfdhbcgdcaaDoorPlainTl
import Derived.Test.YtoagpfdhbcgdcaaDoorTlS
import Derived.Test.YtoagpfdhbcgdcaaDoorTlI
namespace Go.Proofs.YtoagpfdhbcgdcaaDoor.fnTakeLines
open Go.RowKit
set_option linter.unusedVariables false
set_option linter.unusedSimpArgs false
set_option maxRecDepth 8000
theorem beq_i (x : Int) : (x == x) = true := by simp
theorem cells2 {w : World} {g : Nat} {x y : Value} {T : TypeId} (h : w.heap[g]? = some (.cells #[x, y] T (0, 0))) : w.cell? ⟨g, 0, none⟩ = some x ∧ w.cell? ⟨g, 1, none⟩ = some y := ⟨cell_of_row _ g 0 _ _ _ h, cell_of_row _ g 1 _ _ _ h⟩
theorem keepB {w w' : World} {g : Nat} {o : Obj} (h : w.heap[g]? = some o) (B : Below w.heap.size w w') : w'.heap[g]? = some o := (B.block _ (Array.getElem?_eq_some_iff.1 h).1).trans h
set_option maxHeartbeats 16000000 in
theorem walk (a0 : Option Addr) (len0 cap0 : Nat) (z0 : List Int) (w : World) (hM : ML w) (hK : KW w) (w0 : Row .u8 w a0 len0 cap0 z0) :
    Calls Tryd.prog 5 #[.slice a0 len0 cap0] w fun e w' => e = .returned (.bool true) ∧ Below w.heap.size w w' := by
  have hmax := w0.sl.max
  have hcap := w0.sl.cap
  unfold maxLen at hmax
  by_cases hn : 1048576 < len0
  · go_enter Tryd.func5, Tryd.ntmps5
    go_wp2
    go_ret
    exact ⟨rfl, Below.refl _ _⟩
  · go_enter Tryd.func5, Tryd.ntmps5
    go_wp2_with fail
    refine (drawTl_any _ _ _ _ _ w0).mono ?_
    rintro e w1 ⟨C, n, c, D, m, d, xs, zs, La, nl, cl, ls, rfl, S1, S2, hok, hn1, hm1, S3, hls, hnl, T⟩
    have HOK := hid hok
    have HLS := hid (show ∀ l ∈ ls, l.size < 4294967281 from fun l hl => by have := hls l hl; omega)
    have hcl := S3.cap
    have hzm : zs.length = m := by have := S2.len; simpa using this
    have HZM := hid hzm
    clear w0 hmax hcap hn hok hls hzm
    have TI := fun W (hW : ML W) (hW2 : KW W) (h1 : Sl W C n c 2 (hds xs)) (h2 : Sl W D m d 1 (ints zs)) (h3 : Sl W La nl cl 1 (sts ls)) => tlI_any C n c xs D m d zs La nl cl ls W hW hW2 h1 HOK.out h2 h3 HLS.out
    have TS := fun W (h1 : Sl W C n c 2 (hds xs)) (h2 : Sl W D m d 1 (ints zs)) (h3 : Sl W La nl cl 1 (sts ls)) => tlS_any C n c xs D m d zs La nl cl ls W h1 HOK.out h2 h3 HLS.out
    have LAW := hid (tl_law xs zs ls (nl / 2))
    generalize hT : tlV xs zs ls = Tv at *
    clear hT
    obtain ⟨F, Z, q⟩ := Tv
    simp only at TI TS
    have hx : (w1.alloc (.cells #[.slice C n c, .slice D m d] 26)).heap[w1.heap.size]? = some (.cells #[.slice C n c, .slice D m d] 26 (0, 0)) := alloc_new' rfl
    have B3 : Below w1.heap.size w1 (w1.alloc (.cells #[.slice C n c, .slice D m d] 26)) := (Below.refl _ _).alloc (Nat.le_refl _) _
    replace S1 := S1.below B3
    replace S2 := S2.below B3
    replace S3 := S3.below B3
    replace T := below_next T B3
    clear B3
    obtain ⟨x0, x1⟩ := cells2 hx
    go_wp2_with fail
    generalize w1.alloc (.cells #[.slice C n c, .slice D m d] 26) = V at *
    generalize hg : w1.heap.size = g at *
    clear hg
    refine (TI _ (hM.below T) (hK.below T) S1 S2 S3).mono ?_
    rintro e w2 ⟨⟨C2, n2, c2, D2, m2, d2, rfl, O1, P1, _, _⟩, B2⟩
    have Y1 := own_sl O1
    have Y2 := P1
    clear O1 P1 TI x0 x1
    replace hx := keepB hx B2
    replace S1 := S1.below B2
    replace S2 := S2.below B2
    replace S3 := S3.below B2
    replace T := below_next T B2
    clear B2
    have hy : (w2.alloc (.cells #[.slice C2 n2 c2, .slice D2 m2 d2] 26)).heap[w2.heap.size]? = some (.cells #[.slice C2 n2 c2, .slice D2 m2 d2] 26 (0, 0)) := alloc_new' rfl
    have B3 : Below w2.heap.size w2 (w2.alloc (.cells #[.slice C2 n2 c2, .slice D2 m2 d2] 26)) := (Below.refl _ _).alloc (Nat.le_refl _) _
    replace hx := keepB hx B3
    replace S1 := S1.below B3
    replace S2 := S2.below B3
    replace S3 := S3.below B3
    replace Y1 := Y1.below B3
    replace Y2 := Y2.below B3
    replace T := below_next T B3
    clear B3
    obtain ⟨x0, x1⟩ := cells2 hx
    go_wp2_with fail
    generalize w2.alloc (.cells #[.slice C2 n2 c2, .slice D2 m2 d2] 26) = V2 at *
    generalize hg : w2.heap.size = g2 at *
    clear hg
    refine (TS _ S1 S2 S3).mono ?_
    rintro e w3 ⟨⟨C3, n3, c3, D3, m3, d3, rfl, O1, P1, _, _⟩, B2⟩
    have Z1 := own_sl O1
    have Z2 := P1
    clear O1 P1 TS x0 x1
    replace hx := keepB hx B2
    replace hy := keepB hy B2
    replace S1 := S1.below B2
    replace S2 := S2.below B2
    replace S3 := S3.below B2
    replace Y1 := Y1.below B2
    replace Y2 := Y2.below B2
    replace T := below_next T B2
    clear B2
    have hz : (w3.alloc (.cells #[.slice C3 n3 c3, .slice D3 m3 d3] 26)).heap[w3.heap.size]? = some (.cells #[.slice C3 n3 c3, .slice D3 m3 d3] 26 (0, 0)) := alloc_new' rfl
    have B3 : Below w3.heap.size w3 (w3.alloc (.cells #[.slice C3 n3 c3, .slice D3 m3 d3] 26)) := (Below.refl _ _).alloc (Nat.le_refl _) _
    replace hx := keepB hx B3
    replace hy := keepB hy B3
    replace S1 := S1.below B3
    replace S2 := S2.below B3
    replace S3 := S3.below B3
    replace Y1 := Y1.below B3
    replace Y2 := Y2.below B3
    replace Z1 := Z1.below B3
    replace Z2 := Z2.below B3
    replace T := below_next T B3
    clear B3
    obtain ⟨u0, u1⟩ := cells2 hy
    obtain ⟨v0, v1⟩ := cells2 hz
    go_wp2_with fail
    generalize w3.alloc (.cells #[.slice C3 n3 c3, .slice D3 m3 d3] 26) = V3 at *
    generalize hg : w3.heap.size = g3 at *
    clear hg
    refine (sameInbox_same _ _ _ _ _ _ _ _ _ _ _ _ F Z _ Y1 Y2 Z1 Z2).mono ?_
    rintro e w4 ⟨rfl, X⟩
    have B2 := X.below
    clear X u0 u1 v0 v1 Z1 Z2 hz
    replace hx := keepB hx B2
    replace hy := keepB hy B2
    replace S1 := S1.below B2
    replace S2 := S2.below B2
    replace S3 := S3.below B2
    replace Y1 := Y1.below B2
    replace Y2 := Y2.below B2
    replace T := below_next T B2
    clear B2
    have hq := beq_i q
    rcases LAW.out with ⟨e1, e2, e3⟩ | ⟨q0, q30, L1, L2, L3, L4, L5, L6⟩
    · try simp only at e1 e2 e3
      subst e1 e2 e3
      clear hq LAW
      obtain ⟨u0, u1⟩ := cells2 hy
      go_wp2_with fail
      refine (sameInbox_same _ _ _ _ _ _ none 0 0 none 0 0 [] [] _ Y1 Y2 (Sl.nil_ _ _) (Sl.nil_ _ _)).mono ?_
      rintro e w5 ⟨rfl, X⟩
      replace T := below_next T X.below
      clear X u0 u1
      go_wp2_with (go_at_call 11; refine (alive_any _).mono ?_; rintro e w' ⟨rfl, rfl⟩)
      go_ret
      exact ⟨rfl, T⟩
    · try simp only at q0 q30 L1 L3 L4 L5 L6
      clear LAW
      obtain ⟨k, hk⟩ : ∃ k, k = nl / 2 := ⟨_, rfl⟩
      rw [← hk] at L2 L3 L4 L5
      have hkn : k ≤ nl := by omega
      have CV := fun W C n c D m d (h1 : Sl W C n c 2 (hds F)) (h2 : Sl W D m d 1 (ints Z)) => ibI_any C n c F D m d Z W h1 (ib_hdok L1) h2
      rw [L1] at CV
      have T1 := fun W (hW : ML W) (hW2 : KW W) (h1 : Sl W C n c 2 (hds xs)) (h2 : Sl W D m d 1 (ints zs)) (h3 : Sl W La k cl 1 (sts (ls.take k))) => tlI_any C n c xs D m d zs La k cl (ls.take k) W hW hW2 h1 HOK.out h2 h3 (fun l hl => HLS.out l (List.mem_of_mem_take hl))
      have HA := ib_hdok L2
      have T2 := fun W (hW : ML W) (hW2 : KW W) C n c D m d L n' c' (h1 : Sl W C n c 2 (hds (tlV xs zs (ls.take k)).1)) (h2 : Sl W D m d 1 (ints (tlV xs zs (ls.take k)).2.1)) (h3 : Sl W L n' c' 1 (sts (ls.drop k))) => tlI_any C n c (tlV xs zs (ls.take k)).1 D m d (tlV xs zs (ls.take k)).2.1 L n' c' (ls.drop k) W hW hW2 h1 HA h2 h3 (fun l hl => HLS.out l (List.mem_of_mem_drop hl))
      have T3 := fun W (hW : ML W) (hW2 : KW W) C n c D m d (h1 : Sl W C n c 2 (hds F)) (h2 : Sl W D m d 1 (ints Z)) (h3 : Sl W La nl cl 1 (sts ls)) => tlI_any C n c F D m d Z La nl cl ls W hW hW2 h1 (ib_hdok L1) h2 h3 HLS.out
      generalize tlV F Z ls = T3v at *
      obtain ⟨F3, Z3, q3⟩ := T3v
      rw [L3, L4] at T2
      generalize (tlV (tlV xs zs (ls.take k)).1 (tlV xs zs (ls.take k)).2.1 (ls.drop k)).2.2 = qb at *
      clear L1 L2 L3 L4 HA
      generalize tlV xs zs (ls.take k) = T1v at *
      obtain ⟨Fa, Za, qa⟩ := T1v
      try simp only at T1 T2 T3 L5 L6
      have hkl : (nl : Int).tdiv 2 = (k : Int) := by rw [Int.tdiv_eq_ediv_of_nonneg (by omega)]; omega
      have hkc : (k : Int) ≤ (cl : Int) := by omega
      have hkn2 : (k : Int) ≤ (nl : Int) := by omega
      have q00 : decide (q < 0) = false := by rw [decide_eq_false_iff_not]; omega
      have HK := hid hk
      clear hk
      go_wp2_with fail
      try rw [hkl]
      clear q00 hq hkl
      obtain ⟨b0, b1⟩ := cells2 hx
      generalize w4 = w0 at *
      have KM := hid (hM.below T)
      have KV := hid (hK.below T)
      have SA := S3.sub0 (m := k) hkn
      rw [flat_take stC_len] at SA
      refine wp_region_env (W := fun _ w' => Ext.of w0 w') (dead := fun i j => i == 9 && (j == 0 || j == 1 || j == 2 || j == 3 || j == 4 || j == 6)) (Tr := TrSt 9) (F := fun i env w' => match i with
          | 0 => env 0 = ibA C n c D m d
          | 1 => env 1 = .slice La nl cl
          | 2 => env 2 = .int .i64 (k : Int)
          | 3 => env 3 = .slice La k cl
          | 4 => ∃ v, env 4 = .tuple #[v, .int .i64 qa] ∧ IbVal w0.heap.size Fa Za (True) v w'
          | 5 => ∃ v, env 5 = .tuple #[v, .int .i64 qa] ∧ IbVal w0.heap.size Fa Za (True) v w'
          | 6 => ∃ v, env 6 = v ∧ IbVal w0.heap.size Fa Za (True) v w'
          | 7 => env 7 = .int .i64 qa
          | 8 => ∃ g, env 8 = .pointer (some ⟨g, 0, none⟩) ∧ w0.heap.size ≤ g ∧ ∃ c0 c1, w'.heap[g]? = some (.cells #[c0, c1] 26 (0, 0))
          | 9 => ∃ g, env 8 = .pointer (some ⟨g, 0, none⟩) ∧ w0.heap.size ≤ g ∧ IbIn w0.heap.size g Fa Za (True) w'
          | 10 => env 10 = .int .i64 qa
          | _ => True) (by kernel_rfl) (by kernel_rfl) (by kernel_rfl) ?_ ?_ ?_ ?_ ?_
      · exact Ext.of.drew (Ext.of.refl _)
      · intro j env env' w hj he hF
        match j with
        | 0 => exact (he 0 (.inl rfl)).symm.trans hF
        | 1 => exact (he 1 (.inl rfl)).symm.trans hF
        | 2 => exact (he 2 (.inl rfl)).symm.trans hF
        | 3 => exact (he 3 (.inl rfl)).symm.trans hF
        | 4 => obtain ⟨v, e, r⟩ := hF; exact ⟨v, (he 4 (.inl rfl)).symm.trans e, r⟩
        | 5 => obtain ⟨v, e, r⟩ := hF; exact ⟨v, (he 5 (.inl rfl)).symm.trans e, r⟩
        | 6 => obtain ⟨v, e, r⟩ := hF; exact ⟨v, (he 6 (.inl rfl)).symm.trans e, r⟩
        | 7 => exact (he 7 (.inl rfl)).symm.trans hF
        | 8 => obtain ⟨g, e, r⟩ := hF; exact ⟨g, (he 8 (.inl rfl)).symm.trans e, r⟩
        | 9 => obtain ⟨g, e, r⟩ := hF; exact ⟨g, (he 8 (.inr (by kernel_rfl))).symm.trans e, r⟩
        | 10 => exact (he 10 (.inl rfl)).symm.trans hF
        | _ + 11 => exact hF
      · intro i j kk env a b hi hj hne hdd haa hW hT hF
        by_cases es : i = 9
        · subst es
          have hS := hT.store
          match j with
          | 0 => exact absurd hdd (by decide)
          | 1 => exact absurd hdd (by decide)
          | 2 => exact absurd hdd (by decide)
          | 3 => exact absurd hdd (by decide)
          | 4 => exact absurd hdd (by decide)
          | 5 => obtain ⟨v, e, h⟩ := hF; exact ⟨v, e, h.st hS⟩
          | 6 => exact absurd hdd (by decide)
          | 7 => exact hF
          | 8 => obtain ⟨g, e, h1, h2⟩ := hF; exact ⟨g, e, h1, hS.blk h2⟩
          | 9 => exact absurd rfl hne
          | 10 => exact hF
          | _ + 11 => exact hF
        · have hB := hT.other es
          match j with
          | 0 => exact hF
          | 1 => exact hF
          | 2 => exact hF
          | 3 => exact hF
          | 4 => obtain ⟨v, e, h⟩ := hF; exact ⟨v, e, h.below hB.below⟩
          | 5 => obtain ⟨v, e, h⟩ := hF; exact ⟨v, e, h.below hB.below⟩
          | 6 => obtain ⟨v, e, h⟩ := hF; exact ⟨v, e, h.below hB.below⟩
          | 7 => exact hF
          | 8 => obtain ⟨g, e, h1, c0, c1, h2⟩ := hF; exact ⟨g, e, h1, c0, c1, (hB.block (Array.getElem?_eq_some_iff.1 h2).1).trans h2⟩
          | 9 =>
            obtain ⟨g, e, h1, h2⟩ := hF; exact ⟨g, e, h1, h2.below hB.below⟩
          | 10 => exact hF
          | _ + 11 => exact hF
      · refine ⟨fun kk ρ env u hk hc hf hg ht hW hd => ?_, ?_⟩
        · have p0 : ρ (.tmp 3) = .pointer (some ⟨g, 0, none⟩) := (ht 3).trans (by kernel_rfl)
          have y0 := hW.cell b0
          have y1 := hW.cell b1
          exact yield_value (w' := u) (ibA C n c D m d) (by simp [go_sem, hc, hf, p0, y0, y1]) ⟨upd_same _ _ _, hW, TrSt.ext (by decide) (Ext.of.refl _)⟩
        refine ⟨fun kk ρ env u hk hc hf hg ht hW hd => ?_, ?_⟩
        · have p0 : ρ (.tmp 4) = .slice La nl cl := (ht 4).trans (by kernel_rfl)
          exact yield_move _ rfl ⟨(upd_same _ _ _).trans p0, hW, TrSt.ext (by decide) (Ext.of.refl _)⟩
        refine ⟨fun kk ρ env u hk hc hf hg ht hW hd => ?_, ?_⟩
        · have p0 : ρ (.tmp 9) = .int .i64 (k : Int) := (ht 9).trans (by kernel_rfl)
          exact yield_move _ rfl ⟨(upd_same _ _ _).trans p0, hW, TrSt.ext (by decide) (Ext.of.refl _)⟩
        refine ⟨fun kk ρ env u hk hc hf hg ht hW hd => ?_, ?_⟩
        · have e1 : ρ (.tmp 62) = env 1 := (ht 62).trans (by kernel_rfl)
          have q1 : env 1 = .slice La nl cl := hd.1 rfl
          rw [q1] at e1
          have e2 : ρ (.tmp 63) = env 2 := (ht 63).trans (by kernel_rfl)
          have q2 : env 2 = .int .i64 (k : Int) := hd.2.1 rfl
          rw [q2] at e2
          exact yield_value (w' := u) (.slice La k cl) (by simp [go_sem, hc, hf, e1, e2, hkc]) ⟨upd_same _ _ _, hW, TrSt.ext (by decide) (Ext.of.refl _)⟩
        refine ⟨fun kk ρ env u hk hc hf hg ht hW hd => ?_, ?_⟩
        · have e0 : ρ (.tmp 61) = env 0 := (ht 61).trans (by kernel_rfl)
          have q0 : env 0 = ibA C n c D m d := hd.1 rfl
          rw [q0] at e0
          have e3 : ρ (.tmp 64) = env 3 := (ht 64).trans (by kernel_rfl)
          have q3 : env 3 = .slice La k cl := hd.2.1 rfl
          rw [q3] at e3
          refine yield_call 21 #[ibA C n c D m d, .slice La k cl] (by simp [go_sem, hc, hf, e0, e3]) ?_
          refine (T1 _ (KM.out.ext hW) (KV.out.ext hW) (S1.ext hW) (S2.ext hW) (SA.ext hW)).mono ?_
          rintro e w' ⟨h1, h2⟩
          obtain ⟨v, rfl, h⟩ := tkRes_val h1
          have x := Ext.of_below h2
          exact ⟨_, rfl, ⟨v, upd_same _ _ _, h.lower hW.size⟩, hW.trans x, TrSt.ext (by decide) x⟩
        refine ⟨fun kk ρ env u hk hc hf hg ht hW hd => ?_, ?_⟩
        · have e4 : ρ (.tmp 65) = env 4 := (ht 65).trans (by kernel_rfl)
          obtain ⟨v, q0, h⟩ : ∃ v, env 4 = .tuple #[v, .int .i64 qa] ∧ IbVal w0.heap.size Fa Za (True) v u := hd.1 rfl
          rw [q0] at e4
          refine yield_move _ rfl ?_
          exact ⟨⟨v, (upd_same _ _ _).trans e4, h⟩, hW, TrSt.ext (by decide) (Ext.of.refl _)⟩
        refine ⟨fun kk ρ env u hk hc hf hg ht hW hd => ?_, ?_⟩
        · have e5 : ρ (.tmp 60) = env 5 := (ht 60).trans (by kernel_rfl)
          obtain ⟨v, q0, h⟩ : ∃ v, env 5 = .tuple #[v, .int .i64 qa] ∧ IbVal w0.heap.size Fa Za (True) v u := hd.1 rfl
          rw [q0] at e5
          exact yield_value (w' := u) v (by simp [go_sem, hc, hf, e5]) ⟨⟨v, upd_same _ _ _, h⟩, hW, TrSt.ext (by decide) (Ext.of.refl _)⟩
        refine ⟨fun kk ρ env u hk hc hf hg ht hW hd => ?_, ?_⟩
        · have e5 : ρ (.tmp 60) = env 5 := (ht 60).trans (by kernel_rfl)
          obtain ⟨v, q0, h⟩ : ∃ v, env 5 = .tuple #[v, .int .i64 qa] ∧ IbVal w0.heap.size Fa Za (True) v u := hd.1 rfl
          rw [q0] at e5
          exact yield_value (w' := u) (.int .i64 qa) (by simp [go_sem, hc, hf, e5]) ⟨upd_same _ _ _, hW, TrSt.ext (by decide) (Ext.of.refl _)⟩
        refine ⟨fun kk ρ env u hk hc hf hg ht hW hd => ?_, ?_⟩
        · have x : Ext.of u (u.alloc (.cells #[.slice none 0 0, .slice none 0 0] 26)) := (Ext.of.refl _).alloc _
          exact yield_value (w' := u.alloc (.cells #[.slice none 0 0, .slice none 0 0] 26)) (.pointer (some ⟨u.heap.size, 0, none⟩)) (by simp [go_sem, hc, hf]) ⟨⟨u.heap.size, upd_same _ _ _, hW.size, _, _, alloc_new' rfl⟩, hW.trans x, TrSt.ext (by decide) x⟩
        refine ⟨fun kk ρ env u hk hc hf hg ht hW hd => ?_, ?_⟩
        · have e8 : ρ (.tmp 10) = env 8 := (ht 10).trans (by kernel_rfl)
          have e6 : ρ (.tmp 66) = env 6 := (ht 66).trans (by kernel_rfl)
          obtain ⟨g, qg, hgN, hb2⟩ : ∃ g, env 8 = .pointer (some ⟨g, 0, none⟩) ∧ w0.heap.size ≤ g ∧ ∃ c0 c1, u.heap[g]? = some (.cells #[c0, c1] 26 (0, 0)) := hd.1 rfl
          obtain ⟨v, qv, h⟩ : ∃ v, env 6 = v ∧ IbVal w0.heap.size Fa Za (True) v u := hd.2.1 rfl
          rw [qg] at e8
          obtain ⟨c0, c1, hb⟩ := hb2
          obtain ⟨C, n1, c2, D, m1, d2, rfl, hin⟩ := h.stored hb
          rw [qv] at e6
          have f0 := frozen_of_row u g 0 _ _ hb
          have f1 := frozen_of_row u g 1 _ _ hb
          have y0 := cell_of_row u g 0 _ _ _ hb
          have y1 := cell_of_row u g 1 _ _ _ hb
          unfold Yield
          simp [go_sem, hc, hf, e8, e6, f0, f1, y0, y1]
          exact ⟨⟨g, (upd_other env _ (by decide)).trans qg, hgN, hin⟩, Ext.of_below ((hW.below.setCell (p := ⟨g, 0, none⟩) (by dsimp; omega) _).setCell (p := ⟨g, 1, none⟩) (by dsimp; omega) _), TrSt.mk hb⟩
        refine ⟨fun kk ρ env u hk hc hf hg ht hW hd => ?_, ?_⟩
        · have e7 : ρ (.tmp 67) = env 7 := (ht 67).trans (by kernel_rfl)
          have q0 : env 7 = .int .i64 qa := hd.1 rfl
          exact yield_assign _ rfl ⟨(upd_same _ _ _).trans (e7.trans q0), hW, TrSt.ext (by decide) (Ext.of.refl _)⟩
        trivial
      intro env w5 hW hF
      obtain ⟨g4, eg4, lg4, Ig4⟩ : ∃ g, env 8 = .pointer (some ⟨g, 0, none⟩) ∧ w0.heap.size ≤ g ∧ IbIn w0.heap.size g Fa Za (True) w5 := hF 9 (of_decide_eq_true (by kernel_rfl)) (fun i hi => by match i with | 0 | 1 | 2 | 3 | 4 | 5 | 6 | 7 | 8 | 9 | 10 => rfl | _ + 11 => simp at hi; omega)
      have qg4 : env 10 = .int .i64 qa := hF 10 (of_decide_eq_true (by kernel_rfl)) (fun i hi => by match i with | 0 | 1 | 2 | 3 | 4 | 5 | 6 | 7 | 8 | 9 | 10 => rfl | _ + 11 => simp at hi; omega)
      clear hF
      have hrng : List.range 108 = [0, 1, 2, 3, 4, 5, 6, 7, 8, 9, 10, 11, 12, 13, 14, 15, 16, 17, 18, 19, 20, 21, 22, 23, 24, 25, 26, 27, 28, 29, 30, 31, 32, 33, 34, 35, 36, 37, 38, 39, 40, 41, 42, 43, 44, 45, 46, 47, 48, 49, 50, 51, 52, 53, 54, 55, 56, 57, 58, 59, 60, 61, 62, 63, 64, 65, 66, 67, 68, 69, 70, 71, 72, 73, 74, 75, 76, 77, 78, 79, 80, 81, 82, 83, 84, 85, 86, 87, 88, 89, 90, 91, 92, 93, 94, 95, 96, 97, 98, 99, 100, 101, 102, 103, 104, 105, 106, 107] := by kernel_rfl
      unfold after
      simp only [List.size_toArray, List.length_cons, List.length_nil, Nat.reduceAdd, hrng, List.map_cons, List.map_nil]
      simp [idxOf, List.findIdx?, List.findIdx?.go, eg4, qg4]
      clear hrng
      clear eg4 qg4
      obtain ⟨C4, n4, c4, D4, m4, d4, h4, A1, A2⟩ := Ig4.sls
      have B2 := hW.below
      clear hW KM KV SA T1 Ig4 lg4 b0 b1
      replace hx := keepB hx B2
      replace hy := keepB hy B2
      replace S1 := S1.below B2
      replace S2 := S2.below B2
      replace S3 := S3.below B2
      replace Y1 := Y1.below B2
      replace Y2 := Y2.below B2
      replace T := below_next T B2
      clear B2
      obtain ⟨b0, b1⟩ := cells2 h4
      generalize w5 = w0 at *
      have KM := hid (hM.below T)
      have KV := hid (hK.below T)
      have SB := S3.cut (k := k) (K := k * 1) hkn rfl
      rw [flat_drop stC_len] at SB
      try go_wp2_with fail
      refine wp_region_env (W := fun _ w' => Ext.of w0 w') (dead := fun i j => i == 9 && (j == 0 || j == 1 || j == 2 || j == 3 || j == 4 || j == 6)) (Tr := TrSt 9) (F := fun i env w' => match i with
          | 0 => env 0 = ibA C4 n4 c4 D4 m4 d4
          | 1 => env 1 = .slice La nl cl
          | 2 => env 2 = .int .i64 (k : Int)
          | 3 => env 3 = .slice (if cl = k then La else La.map (fun x => x.add (k * 1))) (nl - k) (cl - k)
          | 4 => ∃ v, env 4 = .tuple #[v, .int .i64 qb] ∧ IbVal w0.heap.size F Z (True) v w'
          | 5 => ∃ v, env 5 = .tuple #[v, .int .i64 qb] ∧ IbVal w0.heap.size F Z (True) v w'
          | 6 => ∃ v, env 6 = v ∧ IbVal w0.heap.size F Z (True) v w'
          | 7 => env 7 = .int .i64 qb
          | 8 => ∃ g, env 8 = .pointer (some ⟨g, 0, none⟩) ∧ w0.heap.size ≤ g ∧ ∃ c0 c1, w'.heap[g]? = some (.cells #[c0, c1] 26 (0, 0))
          | 9 => ∃ g, env 8 = .pointer (some ⟨g, 0, none⟩) ∧ w0.heap.size ≤ g ∧ IbIn w0.heap.size g F Z (True) w'
          | 10 => env 10 = .int .i64 qb
          | _ => True) (by kernel_rfl) (by kernel_rfl) (by kernel_rfl) ?_ ?_ ?_ ?_ ?_
      · exact Ext.of.drew (Ext.of.refl _)
      · intro j env env' w hj he hF
        match j with
        | 0 => exact (he 0 (.inl rfl)).symm.trans hF
        | 1 => exact (he 1 (.inl rfl)).symm.trans hF
        | 2 => exact (he 2 (.inl rfl)).symm.trans hF
        | 3 => exact (he 3 (.inl rfl)).symm.trans hF
        | 4 => obtain ⟨v, e, r⟩ := hF; exact ⟨v, (he 4 (.inl rfl)).symm.trans e, r⟩
        | 5 => obtain ⟨v, e, r⟩ := hF; exact ⟨v, (he 5 (.inl rfl)).symm.trans e, r⟩
        | 6 => obtain ⟨v, e, r⟩ := hF; exact ⟨v, (he 6 (.inl rfl)).symm.trans e, r⟩
        | 7 => exact (he 7 (.inl rfl)).symm.trans hF
        | 8 => obtain ⟨g, e, r⟩ := hF; exact ⟨g, (he 8 (.inl rfl)).symm.trans e, r⟩
        | 9 => obtain ⟨g, e, r⟩ := hF; exact ⟨g, (he 8 (.inr (by kernel_rfl))).symm.trans e, r⟩
        | 10 => exact (he 10 (.inl rfl)).symm.trans hF
        | _ + 11 => exact hF
      · intro i j kk env a b hi hj hne hdd haa hW hT hF
        by_cases es : i = 9
        · subst es
          have hS := hT.store
          match j with
          | 0 => exact absurd hdd (by decide)
          | 1 => exact absurd hdd (by decide)
          | 2 => exact absurd hdd (by decide)
          | 3 => exact absurd hdd (by decide)
          | 4 => exact absurd hdd (by decide)
          | 5 => obtain ⟨v, e, h⟩ := hF; exact ⟨v, e, h.st hS⟩
          | 6 => exact absurd hdd (by decide)
          | 7 => exact hF
          | 8 => obtain ⟨g, e, h1, h2⟩ := hF; exact ⟨g, e, h1, hS.blk h2⟩
          | 9 => exact absurd rfl hne
          | 10 => exact hF
          | _ + 11 => exact hF
        · have hB := hT.other es
          match j with
          | 0 => exact hF
          | 1 => exact hF
          | 2 => exact hF
          | 3 => exact hF
          | 4 => obtain ⟨v, e, h⟩ := hF; exact ⟨v, e, h.below hB.below⟩
          | 5 => obtain ⟨v, e, h⟩ := hF; exact ⟨v, e, h.below hB.below⟩
          | 6 => obtain ⟨v, e, h⟩ := hF; exact ⟨v, e, h.below hB.below⟩
          | 7 => exact hF
          | 8 => obtain ⟨g, e, h1, c0, c1, h2⟩ := hF; exact ⟨g, e, h1, c0, c1, (hB.block (Array.getElem?_eq_some_iff.1 h2).1).trans h2⟩
          | 9 =>
            obtain ⟨g, e, h1, h2⟩ := hF; exact ⟨g, e, h1, h2.below hB.below⟩
          | 10 => exact hF
          | _ + 11 => exact hF
      · refine ⟨fun kk ρ env u hk hc hf hg ht hW hd => ?_, ?_⟩
        · have p0 : ρ (.tmp 10) = .pointer (some ⟨g4, 0, none⟩) := (ht 10).trans (by kernel_rfl)
          have y0 := hW.cell b0
          have y1 := hW.cell b1
          exact yield_value (w' := u) (ibA C4 n4 c4 D4 m4 d4) (by simp [go_sem, hc, hf, p0, y0, y1]) ⟨upd_same _ _ _, hW, TrSt.ext (by decide) (Ext.of.refl _)⟩
        refine ⟨fun kk ρ env u hk hc hf hg ht hW hd => ?_, ?_⟩
        · have p0 : ρ (.tmp 4) = .slice La nl cl := (ht 4).trans (by kernel_rfl)
          exact yield_move _ rfl ⟨(upd_same _ _ _).trans p0, hW, TrSt.ext (by decide) (Ext.of.refl _)⟩
        refine ⟨fun kk ρ env u hk hc hf hg ht hW hd => ?_, ?_⟩
        · have p0 : ρ (.tmp 9) = .int .i64 (k : Int) := (ht 9).trans (by kernel_rfl)
          exact yield_move _ rfl ⟨(upd_same _ _ _).trans p0, hW, TrSt.ext (by decide) (Ext.of.refl _)⟩
        refine ⟨fun kk ρ env u hk hc hf hg ht hW hd => ?_, ?_⟩
        · have e1 : ρ (.tmp 70) = env 1 := (ht 70).trans (by kernel_rfl)
          have q1 : env 1 = .slice La nl cl := hd.1 rfl
          rw [q1] at e1
          have e2 : ρ (.tmp 71) = env 2 := (ht 71).trans (by kernel_rfl)
          have q2 : env 2 = .int .i64 (k : Int) := hd.2.1 rfl
          rw [q2] at e2
          exact yield_value (w' := u) (.slice (if cl = k then La else La.map (fun x => x.add (k * 1))) (nl - k) (cl - k)) (by simp [go_sem, hc, hf, e1, e2, hkn2]) ⟨upd_same _ _ _, hW, TrSt.ext (by decide) (Ext.of.refl _)⟩
        refine ⟨fun kk ρ env u hk hc hf hg ht hW hd => ?_, ?_⟩
        · have e0 : ρ (.tmp 69) = env 0 := (ht 69).trans (by kernel_rfl)
          have q0 : env 0 = ibA C4 n4 c4 D4 m4 d4 := hd.1 rfl
          rw [q0] at e0
          have e3 : ρ (.tmp 72) = env 3 := (ht 72).trans (by kernel_rfl)
          have q3 : env 3 = .slice (if cl = k then La else La.map (fun x => x.add (k * 1))) (nl - k) (cl - k) := hd.2.1 rfl
          rw [q3] at e3
          refine yield_call 21 #[ibA C4 n4 c4 D4 m4 d4, .slice (if cl = k then La else La.map (fun x => x.add (k * 1))) (nl - k) (cl - k)] (by simp [go_sem, hc, hf, e0, e3]) ?_
          refine (T2 _ (KM.out.ext hW) (KV.out.ext hW) _ _ _ _ _ _ _ _ _ (A1.ext hW) (A2.ext hW) (SB.ext hW)).mono ?_
          rintro e w' ⟨h1, h2⟩
          obtain ⟨v, rfl, h⟩ := tkRes_val h1
          have x := Ext.of_below h2
          exact ⟨_, rfl, ⟨v, upd_same _ _ _, h.lower hW.size⟩, hW.trans x, TrSt.ext (by decide) x⟩
        refine ⟨fun kk ρ env u hk hc hf hg ht hW hd => ?_, ?_⟩
        · have e4 : ρ (.tmp 73) = env 4 := (ht 73).trans (by kernel_rfl)
          obtain ⟨v, q0, h⟩ : ∃ v, env 4 = .tuple #[v, .int .i64 qb] ∧ IbVal w0.heap.size F Z (True) v u := hd.1 rfl
          rw [q0] at e4
          refine yield_move _ rfl ?_
          exact ⟨⟨v, (upd_same _ _ _).trans e4, h⟩, hW, TrSt.ext (by decide) (Ext.of.refl _)⟩
        refine ⟨fun kk ρ env u hk hc hf hg ht hW hd => ?_, ?_⟩
        · have e5 : ρ (.tmp 68) = env 5 := (ht 68).trans (by kernel_rfl)
          obtain ⟨v, q0, h⟩ : ∃ v, env 5 = .tuple #[v, .int .i64 qb] ∧ IbVal w0.heap.size F Z (True) v u := hd.1 rfl
          rw [q0] at e5
          exact yield_value (w' := u) v (by simp [go_sem, hc, hf, e5]) ⟨⟨v, upd_same _ _ _, h⟩, hW, TrSt.ext (by decide) (Ext.of.refl _)⟩
        refine ⟨fun kk ρ env u hk hc hf hg ht hW hd => ?_, ?_⟩
        · have e5 : ρ (.tmp 68) = env 5 := (ht 68).trans (by kernel_rfl)
          obtain ⟨v, q0, h⟩ : ∃ v, env 5 = .tuple #[v, .int .i64 qb] ∧ IbVal w0.heap.size F Z (True) v u := hd.1 rfl
          rw [q0] at e5
          exact yield_value (w' := u) (.int .i64 qb) (by simp [go_sem, hc, hf, e5]) ⟨upd_same _ _ _, hW, TrSt.ext (by decide) (Ext.of.refl _)⟩
        refine ⟨fun kk ρ env u hk hc hf hg ht hW hd => ?_, ?_⟩
        · have x : Ext.of u (u.alloc (.cells #[.slice none 0 0, .slice none 0 0] 26)) := (Ext.of.refl _).alloc _
          exact yield_value (w' := u.alloc (.cells #[.slice none 0 0, .slice none 0 0] 26)) (.pointer (some ⟨u.heap.size, 0, none⟩)) (by simp [go_sem, hc, hf]) ⟨⟨u.heap.size, upd_same _ _ _, hW.size, _, _, alloc_new' rfl⟩, hW.trans x, TrSt.ext (by decide) x⟩
        refine ⟨fun kk ρ env u hk hc hf hg ht hW hd => ?_, ?_⟩
        · have e8 : ρ (.tmp 12) = env 8 := (ht 12).trans (by kernel_rfl)
          have e6 : ρ (.tmp 74) = env 6 := (ht 74).trans (by kernel_rfl)
          obtain ⟨g, qg, hgN, hb2⟩ : ∃ g, env 8 = .pointer (some ⟨g, 0, none⟩) ∧ w0.heap.size ≤ g ∧ ∃ c0 c1, u.heap[g]? = some (.cells #[c0, c1] 26 (0, 0)) := hd.1 rfl
          obtain ⟨v, qv, h⟩ : ∃ v, env 6 = v ∧ IbVal w0.heap.size F Z (True) v u := hd.2.1 rfl
          rw [qg] at e8
          obtain ⟨c0, c1, hb⟩ := hb2
          obtain ⟨C, n1, c2, D, m1, d2, rfl, hin⟩ := h.stored hb
          rw [qv] at e6
          have f0 := frozen_of_row u g 0 _ _ hb
          have f1 := frozen_of_row u g 1 _ _ hb
          have y0 := cell_of_row u g 0 _ _ _ hb
          have y1 := cell_of_row u g 1 _ _ _ hb
          unfold Yield
          simp [go_sem, hc, hf, e8, e6, f0, f1, y0, y1]
          exact ⟨⟨g, (upd_other env _ (by decide)).trans qg, hgN, hin⟩, Ext.of_below ((hW.below.setCell (p := ⟨g, 0, none⟩) (by dsimp; omega) _).setCell (p := ⟨g, 1, none⟩) (by dsimp; omega) _), TrSt.mk hb⟩
        refine ⟨fun kk ρ env u hk hc hf hg ht hW hd => ?_, ?_⟩
        · have e7 : ρ (.tmp 75) = env 7 := (ht 75).trans (by kernel_rfl)
          have q0 : env 7 = .int .i64 qb := hd.1 rfl
          exact yield_assign _ rfl ⟨(upd_same _ _ _).trans (e7.trans q0), hW, TrSt.ext (by decide) (Ext.of.refl _)⟩
        trivial
      intro env w6 hW hF
      obtain ⟨g5, eg5, lg5, Ig5⟩ : ∃ g, env 8 = .pointer (some ⟨g, 0, none⟩) ∧ w0.heap.size ≤ g ∧ IbIn w0.heap.size g F Z (True) w6 := hF 9 (of_decide_eq_true (by kernel_rfl)) (fun i hi => by match i with | 0 | 1 | 2 | 3 | 4 | 5 | 6 | 7 | 8 | 9 | 10 => rfl | _ + 11 => simp at hi; omega)
      have qg5 : env 10 = .int .i64 qb := hF 10 (of_decide_eq_true (by kernel_rfl)) (fun i hi => by match i with | 0 | 1 | 2 | 3 | 4 | 5 | 6 | 7 | 8 | 9 | 10 => rfl | _ + 11 => simp at hi; omega)
      clear hF
      have hrng : List.range 108 = [0, 1, 2, 3, 4, 5, 6, 7, 8, 9, 10, 11, 12, 13, 14, 15, 16, 17, 18, 19, 20, 21, 22, 23, 24, 25, 26, 27, 28, 29, 30, 31, 32, 33, 34, 35, 36, 37, 38, 39, 40, 41, 42, 43, 44, 45, 46, 47, 48, 49, 50, 51, 52, 53, 54, 55, 56, 57, 58, 59, 60, 61, 62, 63, 64, 65, 66, 67, 68, 69, 70, 71, 72, 73, 74, 75, 76, 77, 78, 79, 80, 81, 82, 83, 84, 85, 86, 87, 88, 89, 90, 91, 92, 93, 94, 95, 96, 97, 98, 99, 100, 101, 102, 103, 104, 105, 106, 107] := by kernel_rfl
      unfold after
      simp only [List.size_toArray, List.length_cons, List.length_nil, Nat.reduceAdd, hrng, List.map_cons, List.map_nil]
      simp [idxOf, List.findIdx?, List.findIdx?.go, eg5, qg5]
      clear hrng
      clear eg5 qg5
      obtain ⟨C5, n5, c5, D5, m5, d5, h5, E1, E2⟩ := Ig5.sls
      have B2 := hW.below
      clear hW KM KV SB T2 Ig5 lg5 b0 b1 A1 A2 h4
      replace hx := keepB hx B2
      replace hy := keepB hy B2
      replace S1 := S1.below B2
      replace S2 := S2.below B2
      replace S3 := S3.below B2
      replace Y1 := Y1.below B2
      replace Y2 := Y2.below B2
      replace T := below_next T B2
      clear B2
      obtain ⟨u0, u1⟩ := cells2 hy
      go_wp2_with fail
      refine (T3 _ (hM.below T) (hK.below T) _ _ _ _ _ _ Y1 Y2 S3).mono ?_
      rintro e w7 ⟨⟨C6, n6, c6, D6, m6, d6, rfl, _, _, _, _⟩, B2⟩
      clear T3 u0 u1
      replace hx := keepB hx B2
      replace hy := keepB hy B2
      replace h5 := keepB h5 B2
      replace S1 := S1.below B2
      replace S2 := S2.below B2
      replace S3 := S3.below B2
      replace Y1 := Y1.below B2
      replace Y2 := Y2.below B2
      replace E1 := E1.below B2
      replace E2 := E2.below B2
      replace T := below_next T B2
      clear B2
      have hs5 : (w7.alloc (.cells #[.slice C6 n6 c6, .slice D6 m6 d6] 26)).heap[w7.heap.size]? = some (.cells #[.slice C6 n6 c6, .slice D6 m6 d6] 26 (0, 0)) := alloc_new' rfl
      have B3 : Below w7.heap.size w7 (w7.alloc (.cells #[.slice C6 n6 c6, .slice D6 m6 d6] 26)) := (Below.refl _ _).alloc (Nat.le_refl _) _
      replace hx := keepB hx B3
      replace hy := keepB hy B3
      replace h5 := keepB h5 B3
      replace S1 := S1.below B3
      replace S2 := S2.below B3
      replace S3 := S3.below B3
      replace Y1 := Y1.below B3
      replace Y2 := Y2.below B3
      replace E1 := E1.below B3
      replace E2 := E2.below B3
      replace T := below_next T B3
      clear B3
      obtain ⟨u0, u1⟩ := cells2 hy
      clear hs5
      go_wp2_with fail
      generalize w7.alloc (.cells #[.slice C6 n6 c6, .slice D6 m6 d6] 26) = V7 at *
      generalize hg : w7.heap.size = g7 at *
      clear hg
      refine (CV _ _ _ _ _ _ _ Y1 Y2).mono ?_
      rintro e w8 ⟨rfl, X⟩
      have B2 := X.below
      clear X u0 u1 CV
      replace hx := keepB hx B2
      replace hy := keepB hy B2
      replace h5 := keepB h5 B2
      replace S1 := S1.below B2
      replace S2 := S2.below B2
      replace S3 := S3.below B2
      replace Y1 := Y1.below B2
      replace Y2 := Y2.below B2
      replace E1 := E1.below B2
      replace E2 := E2.below B2
      replace T := below_next T B2
      clear B2
      obtain ⟨u0, u1⟩ := cells2 hy
      obtain ⟨v0, v1⟩ := cells2 h5
      go_wp2_with fail
      refine (sameInbox_same _ _ _ _ _ _ _ _ _ _ _ _ F Z _ E1 E2 Y1 Y2).mono ?_
      rintro e w9 ⟨rfl, X⟩
      have B2 := X.below
      clear X u0 u1 v0 v1 E1 E2 h5
      replace hx := keepB hx B2
      replace hy := keepB hy B2
      replace S1 := S1.below B2
      replace S2 := S2.below B2
      replace T := below_next T B2
      clear B2
      obtain ⟨x0, x1⟩ := cells2 hx
      have hs1 : (qa + qb == q) = true := by rw [L5]; simp
      have hs2 : -9223372036854775808 ≤ qa + qb ∧ qa + qb ≤ 9223372036854775807 := by omega
      have hs3 : -9223372036854775808 ≤ (m : Int) + q ∧ (m : Int) + q ≤ 9223372036854775807 := by omega
      rw [HZM.out] at L6
      by_cases hgt : (12 : Int) < (m : Int) + q
      · have t0 : decide ((12 : Int) < (m : Int) + q) = true := by simpa using hgt
        clear L5 L6 hgt
        go_wp2_with fail
        go_ret
        exact ⟨rfl, T⟩
      · have t0 : decide ((12 : Int) < (m : Int) + q) = false := by simpa using hgt
        have t1 : q3 = 0 := L6.resolve_left hgt
        subst t1
        clear L5 L6 hgt
        go_wp2_with fail
        go_ret
        exact ⟨rfl, T⟩
end Go.Proofs.YtoagpfdhbcgdcaaDoor.fnTakeLines
