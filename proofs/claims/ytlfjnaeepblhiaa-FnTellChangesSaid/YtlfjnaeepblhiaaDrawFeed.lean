/- The contracts of the draws of feeds. -/
import Derived.Test.YtlfjnaeepblhiaaDrawIm
import Derived.Test.YtlfjnaeepblhiaaFeedS
import Derived.Test.YtlfjnaeepblhiaaCopy2
namespace Go.Proofs.Ytlfjnaeepblhiaa
open Go.RowKit
set_option linter.unusedVariables false
set_option linter.unusedSimpArgs false
theorem imOk_snoc {xs : List Im} {x : Im} (h : imOk xs) (ha : x.1.size ≤ 9223372036854775807) (hb : x.2.1.size ≤ 9223372036854775807) (hs : x.2.2.1.size ≤ 9223372036854775807) : imOk (xs ++ [x]) := by
  intro y hy
  rw [List.mem_append] at hy
  rcases hy with hy | hy
  · exact h y hy
  · simp at hy; subst hy; exact ⟨ha, hb, hs⟩
theorem grown_below {w u v : World} {row : Option Nat} (G : w.grownBy u row) (h : Below u.heap.size u v) : w.grownBy v row :=
  ⟨h.os.trans G.os, h.tape.trans G.tape, h.output.trans G.output, Nat.le_trans G.size h.size, fun k hk hne => (h.block k (Nat.lt_of_lt_of_le hk G.size)).trans (G.block k hk hne)⟩
/-- An append to an own row of new blocks. -/
theorem grown_own {w u v : World} {g N : Nat} {T : TypeId} {size n : Nat} {x : Value} {vs : List Value} (G : w.grownBy u (some g)) (O : u.ownsRow N T size x n vs) (hN : w.heap.size ≤ N) (h : u.grownBy v x.ownBlock) : w.grownBy v (some g) :=
  ⟨h.os.trans G.os, h.tape.trans G.tape, h.output.trans G.output, Nat.le_trans G.size h.size, fun k hk hne => (h.block k (Nat.lt_of_lt_of_le hk G.size) (fun e => by have := (O.lt k e.symm).1; omega)).trans (G.block k hk hne)⟩
def TrF (i : Nat) (a b : World) : Prop := i = 5 ∨ Ext.of a b
theorem TrF.get {i : Nat} {a b : World} (h : TrF i a b) (hi : i ≠ 5) : Ext.of a b := h.resolve_left hi
def lenOf : Value → Nat
  | .slice _ n _ => n
  | _ => 0

set_option maxRecDepth 8000 in
set_option maxHeartbeats 8000000 in
theorem feed_any (g p : Nat) (n : Int) (w : World) (h : Rd w g p) (hp : p ≤ 20000) (h1 : 0 ≤ n) (h2 : n ≤ 1048576) :
    Calls Try.prog 82 #[.pointer (some ⟨g, 0, none⟩), .int .i64 n] w fun e w' => ∃ B k d xs, e = .returned (.slice B k d) ∧ w'.ownsRow w.heap.size 57 4 (.slice B k d) k (ims xs) ∧ imOk xs ∧ k ≤ 7 ∧ Turn w w' g 0 (p + 5000) := by
  have hgr := h.lt
  have O0 := own_empty w 57 4
  have R0 := h.alloc (.cells #[] 57)
  have G0 : w.grownBy (w.alloc (.cells #[] 57)) (some g) := World.grownBy_alloc _ _ _
  go_enter Try.func82, Try.ntmps82
  go_wp2_with fail
  refine (pick_any g p 7 _ R0 (by omega) (by omega) (by omega)).mono ?_
  rintro e' w1 ⟨q, rfl, q0, q1, R1, G1⟩
  have O1 : w1.ownsRow w.heap.size 57 4 (.slice (some ⟨w.heap.size, 0, none⟩) 0 0) 0 (ims []) := O0.kept G1 (.inr (by simp [Value.ownBlock]; omega))
  replace G1 := G0.trans G1
  clear O0 R0 G0 h
  go_wp2_with fail
  go_loopw [5, 6] (fun v i wr => ∃ (k p' m d : Nat) (B : Option Addr) (xs : List Im), k ≤ 6 ∧ i = .int .i64 k ∧ v = .slice B m d ∧ wr.ownsRow w.heap.size 57 4 (.slice B m d) m (ims xs) ∧ Hid (imOk xs) ∧ m + k ≤ 6 ∧ Rd wr g p' ∧ p' ≤ p + 1 + 600 * (6 - k) ∧ w.grownBy wr (some g)) (fun _ i _ => (intOf i).toNat)
  case atStart =>
    obtain ⟨k, rfl⟩ := Int.eq_ofNat_of_zero_le q0
    exact ⟨k, p + 1, 0, 0, _, [], by omega, rfl, rfl, O1, hid (by intro x hx; simp at hx), by omega, R1, by omega, G1⟩
  case round =>
    clear O1 R1 G1
    obtain ⟨k, p', m, d, C, zs, hk, rfl, rfl, O, HOK, hm, R, l2, G⟩ := hrel
    by_cases hk0 : 0 < k
    · go_wp2_with fail
      refine (item_any g p' 0 _ R (by omega) (by omega) (by omega)).mono ?_
      rintro e' w3 ⟨a, b, s, f, rfl, ha, hb, hs, p3, l5, l6, R3, G4⟩
      have O3 := O.kept G4 (by right; intro e; have := (O.lt g e).1; omega)
      have G5 := G.trans G4
      have HOKI := hid (imOk_snoc (x := (a, b, s, f)) HOK.out (show a.size ≤ 9223372036854775807 by omega) (show b.size ≤ 9223372036854775807 by omega) (show s.size ≤ 9223372036854775807 by omega))
      have hIB : (w3.alloc (.cells #[.string a, .string b, .string s, .int .i64 f] 57)).heap[w3.heap.size]? = some (.cells #[.string a, .string b, .string s, .int .i64 f] 57 (0, 0)) := alloc_new' rfl
      have O6 := O3.alloc (.cells #[.string a, .string b, .string s, .int .i64 f] 57)
      have R6 := R3.alloc (.cells #[.string a, .string b, .string s, .int .i64 f] 57)
      have G6 := G5.trans (World.grownBy_alloc w3 (.cells #[.string a, .string b, .string s, .int .i64 f] 57) _)
      have hl6 : p3 ≤ p + 1 + 600 * (6 - (k - 1)) := by omega
      clear O R G G4 G5 R3 O3 ha hb hs l2 l5 l6
      go_wp2_with fail
      generalize hV : w3.alloc (.cells #[.string a, .string b, .string s, .int .i64 f] 57) = V at *
      generalize hBB : w3.heap.size = B at *
      clear hV hBB
      have SL := own_sl O6
      have hcell0 := cell_of_row V B 0 _ _ _ hIB
      refine wp_region_live (W := fun _ u => Below V.heap.size V u) (dead := fun i j => i == 5 && (j == 0 || j == 2 || j == 4)) (Tr := fun i a b => TrF i a b) (F := fun i v w' => match i with
          | 0 => ∃ B0, v = .slice (some ⟨B0, 0, none⟩) 0 0 ∧ V.heap.size ≤ B0 ∧ w'.heap[B0]? = some (.cells #[] 57 (0, 0))
          | 1 => v = .slice C m d
          | 2 => ∃ D d, v = .slice D m d ∧ w'.ownsRow V.heap.size 57 4 (.slice D m d) m (ims zs)
          | 3 => v = imA a b s f
          | 4 => ∃ B1, v = .slice (some ⟨B1, 0, none⟩) 1 1 ∧ w'.heap[B1]? = some (.cells (imC (a, b, s, f)).toArray 57 (0, 0))
          | 5 => ∃ D d, v = .slice D (m + 1) d ∧ w'.ownsRow V.heap.size 57 4 (.slice D (m + 1) d) (m + 1) (ims (zs ++ [(a, b, s, f)]))
          | 6 => ∃ t : Bool, v = .bool t
          | _ => True) (by kernel_rfl) (by kernel_rfl) (by kernel_rfl) ?_ ?_ ?_ ?_
      · exact (Below.refl _ _).drew
      · intro i j kk a' b' v hi hj hne hdd haa hW hT hF
        by_cases hi5 : i = 5
        · subst hi5
          match j with
          | 0 => exact absurd hdd (by decide)
          | 2 => exact absurd hdd (by decide)
          | 4 => exact absurd hdd (by decide)
          | 1 => exact hF
          | 3 => exact hF
          | 5 => exact absurd rfl hne
          | 6 => exact hF
          | _ + 7 => trivial
        · have x := hT.get hi5
          match j with
          | 0 => obtain ⟨B0, h1, h2, h3⟩ := hF; exact ⟨B0, h1, h2, (x.block (Array.getElem?_eq_some_iff.1 h3).1).trans h3⟩
          | 1 => exact hF
          | 2 => obtain ⟨D, d, h1, h2⟩ := hF; exact ⟨D, d, h1, own_ext h2 x⟩
          | 3 => exact hF
          | 4 => obtain ⟨B0, h1, h3⟩ := hF; exact ⟨B0, h1, (x.block (Array.getElem?_eq_some_iff.1 h3).1).trans h3⟩
          | 5 => obtain ⟨D, d, h1, h2⟩ := hF; exact ⟨D, d, h1, own_ext h2 x⟩
          | 6 => exact hF
          | _ + 7 => trivial
      · refine ⟨fun kk ρ u hkk hc hf hb hW hd => ?_, ?_⟩
        · have x := (Ext.of.refl u).alloc (.cells #[] 57)
          exact yield_value (w' := u.alloc (.cells #[] 57)) (.slice (some ⟨u.heap.size, 0, none⟩) 0 0) (by simp [go_sem, hc, hf]) ⟨⟨_, rfl, hW.size, alloc_new' rfl⟩, below_next hW x.below, .inr x⟩
        refine ⟨fun kk ρ u hkk hc hf hb hW hd => ?_, ?_⟩
        · exact yield_move _ rfl ⟨hb 5 (by kernel_rfl), hW, .inr (Ext.of.refl _)⟩
        refine ⟨fun kk ρ u hkk hc hf hb hW hd => ?_, ?_⟩
        · obtain ⟨B0, e0, h1, h3⟩ : ∃ B0, ρ (.tmp 17) = .slice (some ⟨B0, 0, none⟩) 0 0 ∧ V.heap.size ≤ B0 ∧ u.heap[B0]? = some (.cells #[] 57 (0, 0)) := hd.1 rfl rfl
          have e1 : ρ (.tmp 18) = .slice C m d := hd.2.1 rfl rfl
          have S2 := SL.below hW
          have hz := hW.size
          refine yield_append_new (.tmp 17) (.tmp 18) eltItem rfl V.heap.size _ (.inr ⟨B0, rfl⟩) e0 (own_lit0 h1 h3) C m d (ims zs) e1 S2.see (S2.of_none (by decide)) S2.len (flat_one imC_one _) (by unfold maxLen; omega) (by omega) hz ?_
          intro v' w' O2 nw
          obtain ⟨D, d2, rfl, _⟩ := own_form O2
          exact ⟨⟨D, d2, rfl, O2⟩, below_next hW nw.below, .inr (Ext.of_below nw.below)⟩
        refine ⟨fun kk ρ u hkk hc hf hb hW hd => ?_, ?_⟩
        · have e0 : ρ (.tmp 7) = .pointer (some ⟨B, 0, none⟩) := hb 7 (by kernel_rfl)
          have hX := (hW.block _ (Array.getElem?_eq_some_iff.1 hIB).1).trans hIB
          have y0 := cell_of_row u B 0 _ _ _ hX
          have y1 := cell_of_row u B 1 _ _ _ hX
          have y2 := cell_of_row u B 2 _ _ _ hX
          have y3 := cell_of_row u B 3 _ _ _ hX
          exact yield_value (w' := u) (imA a b s f) (by simp [go_sem, hc, hf, e0, y0, y1, y2, y3]) ⟨rfl, hW, .inr (Ext.of.refl _)⟩
        refine ⟨fun kk ρ u hkk hc hf hb hW hd => ?_, ?_⟩
        · have e0 : ρ (.tmp 20) = imA a b s f := hd.1 rfl rfl
          have x := (Ext.of.refl u).alloc (.cells (imC (a, b, s, f)).toArray 57)
          exact yield_value (w' := u.alloc (.cells (imC (a, b, s, f)).toArray 57)) (.slice (some ⟨u.heap.size, 0, none⟩) 1 1) (by simp [go_sem, hc, hf, e0]) ⟨⟨_, rfl, alloc_new' rfl⟩, below_next hW x.below, .inr x⟩
        refine ⟨fun kk ρ u hkk hc hf hb hW hd => ?_, ?_⟩
        · obtain ⟨D, d2, e0, O2⟩ : ∃ D d, ρ (.tmp 19) = .slice D m d ∧ u.ownsRow V.heap.size 57 4 (.slice D m d) m (ims zs) := hd.1 rfl rfl
          obtain ⟨B1, e1, h3⟩ : ∃ B1, ρ (.tmp 21) = .slice (some ⟨B1, 0, none⟩) 1 1 ∧ u.heap[B1]? = some (.cells (imC (a, b, s, f)).toArray 57 (0, 0)) := hd.2.1 rfl rfl
          have hz := hW.size
          refine yield_append (.tmp 19) (.tmp 21) eltItem rfl V.heap.size _ m _ e0 O2 (some ⟨B1, 0, none⟩) 1 1 (imC (a, b, s, f)) e1 (see_lit h3) (by simp) rfl (imC_one _) (by unfold maxLen; omega) (by omega) hz ?_
          intro v' w' O3 G3 _
          rw [show ims zs ++ imC (a, b, s, f) = ims (zs ++ [(a, b, s, f)]) by simp [flat]] at O3
          obtain ⟨D3, d3, rfl, _⟩ := own_form O3
          exact ⟨⟨D3, d3, rfl, O3⟩, hW.grown G3 hz (fun k hk => (O2.lt k hk).1), .inl rfl⟩
        refine ⟨fun kk ρ u hkk hc hf hb hW hd => ?_, ?_⟩
        · obtain ⟨D, d2, e0, O2⟩ : ∃ D d, ρ (.tmp 22) = .slice D (m + 1) d ∧ u.ownsRow V.heap.size 57 4 (.slice D (m + 1) d) (m + 1) (ims (zs ++ [(a, b, s, f)])) := hd.1 rfl rfl
          refine yield_call 66 #[.slice D (m + 1) d2] (by simp [go_sem, hc, hf, e0]) ?_
          refine (fdS_any D (m + 1) d2 (zs ++ [(a, b, s, f)]) u (own_sl O2) HOKI.out).mono ?_
          rintro e' w' ⟨rfl, x⟩
          exact ⟨_, rfl, ⟨_, rfl⟩, below_next hW x.below, .inr x⟩
        trivial
      intro env w5 hW hF
      obtain ⟨t, e6⟩ : ∃ t : Bool, env 6 = .bool t := hF 6 (of_decide_eq_true (by kernel_rfl)) (fun i hi => by match i with | 0 | 1 | 2 | 3 | 4 | 5 | 6 => rfl | _ + 7 => simp at hi; omega)
      clear hF SL hcell0
      have hrng : List.range 51 = [0, 1, 2, 3, 4, 5, 6, 7, 8, 9, 10, 11, 12, 13, 14, 15, 16, 17, 18, 19, 20, 21, 22, 23, 24, 25, 26, 27, 28, 29, 30, 31, 32, 33, 34, 35, 36, 37, 38, 39, 40, 41, 42, 43, 44, 45, 46, 47, 48, 49, 50] := by kernel_rfl
      unfold after
      simp only [List.size_toArray, List.length_cons, List.length_nil, Nat.reduceAdd, hrng, List.map_cons, List.map_nil]
      simp [idxOf, List.findIdx?, List.findIdx?.go, e6]
      clear hrng e6
      have O7 := own_below O6 hW
      have R7 := R6.below hW
      have G7 := grown_below G6 hW
      replace hIB := (hW.block _ (Array.getElem?_eq_some_iff.1 hIB).1).trans hIB
      have y0 := cell_of_row w5 B 0 _ _ _ hIB
      have y1 := cell_of_row w5 B 1 _ _ _ hIB
      have y2 := cell_of_row w5 B 2 _ _ _ hIB
      have y3 := cell_of_row w5 B 3 _ _ _ hIB
      clear O6 R6 G6 hW
      cases t with
      | false =>
        go_wp2_with fail
        refine ⟨?_, ?_⟩
        · (repeat apply Exists.intro)
          refine ⟨?_, rfl⟩
          exact ⟨k - 1, p3, m, d, C, zs, by omega, by go_num, rfl, O7, HOK, by omega, R7, by omega, G7⟩
        · simp [intOf]; omega
      | true =>
        have hzA := G7.size
        have OA := O7.alloc (.cells (imC (a, b, s, f)).toArray 57)
        go_wp2_with (at_builtin; refine wpList_append_see _ rfl (.tmp 24) (.tmp 26) eltItem rfl w.heap.size _ m (ims zs) rfl OA (some ⟨w5.heap.size, 0, none⟩) 1 1 (imC (a, b, s, f)) rfl (see_new _ (imC (a, b, s, f)) _ _ rfl) (by simp) rfl (imC_one _) (by unfold maxLen; omega) (by omega) (Nat.le_trans hzA (by simp)) ?_; intro v4 w4 O4 G6 H6)
        rw [show ims zs ++ imC (a, b, s, f) = ims (zs ++ [(a, b, s, f)]) by simp [flat]] at O4
        have R4 := (R7.alloc (.cells (imC (a, b, s, f)).toArray 57)).grown G6 (fun q hq => by have := (OA.lt q hq).1; omega)
        have G7 := grown_own (G7.trans (World.grownBy_alloc _ (.cells (imC (a, b, s, f)).toArray 57) _)) OA (Nat.le_refl _) G6
        obtain ⟨B4, d4, rfl, _⟩ := own_form O4
        clear O7 R7 OA H6 y0 y1 y2 y3
        go_wp2_with fail
        refine ⟨?_, ?_⟩
        · (repeat apply Exists.intro)
          refine ⟨?_, rfl⟩
          exact ⟨k - 1, p3, m + 1, d4, B4, _, by omega, by go_num, rfl, O4, HOKI, by omega, R4, by omega, G7⟩
        · simp [intOf]; omega
    · have hk1 : k = 0 := by omega
      have t0 : decide ((0 : Int) < (k : Int)) = false := by simp; omega
      have l2' : p' ≤ p + 3601 := by omega
      have hm' : m ≤ 6 := by omega
      clear hk1 l2 hm
      go_wp2_with fail
      refine (odd_any g p' n _ R (by omega) h1 h2).mono ?_
      rintro e' w2 ⟨u, rfl, p2, l3, l4, R2, G2⟩
      have O2 := O.kept G2 (by right; intro e; have := (O.lt g e).1; omega)
      have G3 := G.trans G2
      clear O R G G2
      cases u with
      | false =>
        go_wp2_with fail
        go_ret
        exact ⟨C, m, d, zs, rfl, O2, HOK.out, by omega, p2, Nat.zero_le _, by omega, R2, G3⟩
      | true =>
        by_cases hm0 : m = 0
        · have t1 : decide ((0 : Int) < (m : Int)) = false := by simp; omega
          have t3 : decide (0 < m) = false := by simp; omega
          have HM := hid hm0
          clear hm0
          go_wp2_with fail
          refine (item_any g p2 1 _ R2 (by omega) (by omega) (by omega)).mono ?_
          rintro e' w3 ⟨a, b, s, f, rfl, ha, hb, hs, p3, l5, l6, R3, G4⟩
          have O3 := O2.kept G4 (by right; intro e; have := (O2.lt g e).1; omega)
          have G5 := G3.trans G4
          have HOKI := hid (imOk_snoc (x := (a, b, s, f)) HOK.out (show a.size ≤ 9223372036854775807 by omega) (show b.size ≤ 9223372036854775807 by omega) (show s.size ≤ 9223372036854775807 by omega))
          clear O2 R2 G3 G4 ha hb hs
          have hzA := G5.size
          have OA := O3.alloc (.cells (imC (a, b, s, f)).toArray 57)
          go_wp2_with (at_builtin; refine wpList_append_see _ rfl (.tmp 45) (.tmp 48) eltItem rfl w.heap.size _ m (ims zs) rfl OA (some ⟨w3.heap.size, 0, none⟩) 1 1 (imC (a, b, s, f)) rfl (see_new _ (imC (a, b, s, f)) _ _ rfl) (by simp) rfl (imC_one _) (by unfold maxLen; omega) (by omega) (Nat.le_trans hzA (by simp)) ?_; intro v4 w4 O4 G6 H6)
          rw [show ims zs ++ imC (a, b, s, f) = ims (zs ++ [(a, b, s, f)]) by simp [flat]] at O4
          have R4 := (R3.alloc (.cells (imC (a, b, s, f)).toArray 57)).grown G6 (fun q hq => by have := (OA.lt q hq).1; omega)
          have G7 := grown_own (G5.trans (World.grownBy_alloc _ (.cells (imC (a, b, s, f)).toArray 57) _)) OA (Nat.le_refl _) G6
          obtain ⟨B4, d4, rfl, _⟩ := own_form O4
          clear OA H6
          go_wp2_with fail
          go_ret
          exact ⟨B4, m + 1, d4, _, rfl, O4, HOKI.out, by omega, p3, Nat.zero_le _, by omega, R4, G7⟩
        · have hm1 : 0 < m := by omega
          have t1 : decide ((0 : Int) < (m : Int)) = true := by simp; omega
          go_wp2_with fail
          refine (pick_any g p2 2 _ R2 (by omega) (by omega) (by omega)).mono ?_
          rintro e' w3 ⟨r, rfl, r0, r1, R3, G4⟩
          have O3 := O2.kept G4 (by right; intro e; have := (O2.lt g e).1; omega)
          have G5 := G3.trans G4
          clear O2 R2 G3 G4
          obtain rfl | rfl : r = 0 ∨ r = 1 := by omega
          · obtain ⟨ad, a, b, s, f, hA, hab, c0, c1, c2, c3⟩ := (own_sl O3).im (j := 0) hm1
            subst hA
            have hv := HOK.out _ (List.mem_of_getElem? hab)
            have HOKI := hid (imOk_snoc (x := (a, b, s, f)) HOK.out hv.1 hv.2.1 hv.2.2)
            have l9 : p2 + 1 ≤ p + 5000 := by omega
            clear hab hv l2' l3 l4
            have hz0 : ad.add (0 * 4) = ad := by simp [Addr.add]
            rw [hz0] at c0 c1 c2 c3
            clear hz0
            have hzA := G5.size
            have OA := O3.alloc (.cells (imC (a, b, s, f)).toArray 57)
            go_wp2_with (at_builtin; refine wpList_append_see _ rfl (.tmp 39) (.tmp 43) eltItem rfl w.heap.size _ m (ims zs) rfl OA (some ⟨w3.heap.size, 0, none⟩) 1 1 (imC (a, b, s, f)) rfl (see_new _ (imC (a, b, s, f)) _ _ rfl) (by simp) rfl (imC_one _) (by unfold maxLen; omega) (by omega) (Nat.le_trans hzA (by simp)) ?_; intro v4 w4 O4 G6 H6)
            rw [show ims zs ++ imC (a, b, s, f) = ims (zs ++ [(a, b, s, f)]) by simp [flat]] at O4
            have R4 := (R3.alloc (.cells (imC (a, b, s, f)).toArray 57)).grown G6 (fun q hq => by have := (OA.lt q hq).1; omega)
            have G7 := grown_own (G5.trans (World.grownBy_alloc _ (.cells (imC (a, b, s, f)).toArray 57) _)) OA (Nat.le_refl _) G6
            obtain ⟨B4, d4, rfl, _⟩ := own_form O4
            clear OA H6
            go_wp2_with fail
            go_ret
            exact ⟨B4, m + 1, d4, _, rfl, O4, HOKI.out, by omega, (p2 + 1), Nat.zero_le _, (by rw [Nat.zero_add]; exact l9), R4, G7⟩
          · go_wp2_with fail
            refine (item_any g (p2 + 1) 1 _ R3 (by omega) (by omega) (by omega)).mono ?_
            rintro e' w6 ⟨a, b, s, f, rfl, ha, hb, hs, p3, l5, l6, R6, G4⟩
            have O6 := O3.kept G4 (by right; intro e; have := (O3.lt g e).1; omega)
            replace G5 := G5.trans G4
            have HOKI := hid (imOk_snoc (x := (a, b, s, f)) HOK.out (show a.size ≤ 9223372036854775807 by omega) (show b.size ≤ 9223372036854775807 by omega) (show s.size ≤ 9223372036854775807 by omega))
            clear O3 R3 G4 ha hb hs
            have hzA := G5.size
            have OA := O6.alloc (.cells (imC (a, b, s, f)).toArray 57)
            go_wp2_with (at_builtin; refine wpList_append_see _ rfl (.tmp 45) (.tmp 48) eltItem rfl w.heap.size _ m (ims zs) rfl OA (some ⟨w6.heap.size, 0, none⟩) 1 1 (imC (a, b, s, f)) rfl (see_new _ (imC (a, b, s, f)) _ _ rfl) (by simp) rfl (imC_one _) (by unfold maxLen; omega) (by omega) (Nat.le_trans hzA (by simp)) ?_; intro v4 w4 O4 G6 H6)
            rw [show ims zs ++ imC (a, b, s, f) = ims (zs ++ [(a, b, s, f)]) by simp [flat]] at O4
            have R4 := (R6.alloc (.cells (imC (a, b, s, f)).toArray 57)).grown G6 (fun q hq => by have := (OA.lt q hq).1; omega)
            have G7 := grown_own (G5.trans (World.grownBy_alloc _ (.cells (imC (a, b, s, f)).toArray 57) _)) OA (Nat.le_refl _) G6
            obtain ⟨B4, d4, rfl, _⟩ := own_form O4
            clear OA H6
            go_wp2_with fail
            go_ret
            exact ⟨B4, m + 1, d4, _, rfl, O4, HOKI.out, by omega, p3, Nat.zero_le _, by omega, R4, G7⟩
end Go.Proofs.Ytlfjnaeepblhiaa
