/- The contracts of AddTurn, the program's and the reference's. -/
import Derived.Test.YtcpepjnmjiffcaaKeyOn
import Derived.Test.YtcpepjnmjiffcaaChain
namespace Go.Proofs.Ytcpepjnmjiffcaa
open Go.RowKit
set_option linter.unusedVariables false
set_option linter.unusedSimpArgs false

@[irreducible] noncomputable def addV (xs : List Tn) (x : Tn) : List Tn × Bool := if tnV xs = true then (if tnV (xs ++ [x]) = true then (xs ++ [x], true) else (xs, false)) else ([], false)
section
variable {xs : List Tn} {x : Tn}
theorem add_no (h : tnV xs = false) : addV xs x = ([], false) := by unfold addV; rw [h]; rfl
theorem add_not (h : tnV xs = true) (h' : tnV (xs ++ [x]) = false) : addV xs x = (xs, false) := by unfold addV; rw [h, h']; rfl
theorem add_yes (h : tnV xs = true) (h' : tnV (xs ++ [x]) = true) : addV xs x = (xs ++ [x], true) := by unfold addV; rw [h, h']; rfl
theorem addV_len (xs : List Tn) (x : Tn) : (addV xs x).1.length ≤ 7 := by
  cases h : tnV xs with
  | false => rw [add_no h]; simp
  | true =>
    have hl := (tnV_len h).1
    cases h' : tnV (xs ++ [x]) with
    | false => rw [add_not h h']; simp; omega
    | true => rw [add_yes h h']; simp; omega
end
theorem ret_sb {v v' : Value} {a b : Bool} (hv : v = v') (h : a = b) : Ending.returned (.tuple #[v, .bool a]) = .returned (.tuple #[v', .bool b]) := by rw [h, hv]
set_option maxHeartbeats 2000000 in
theorem addTurnI_any (A : Option Addr) (n c : Nat) (xs : List Tn) (d a b e : Int) (w : World) (h : Sl w A n c 4 (tns xs)) :
    Calls Try.prog 24 #[.slice A n c, tnA d a b e] w fun e' w' => ∃ B k d', e' = .returned (.tuple #[.slice B k d', .bool (addV xs (d, a, b, e)).2]) ∧ w'.ownsRow w.heap.size 39 4 (.slice B k d') k (tns (addV xs (d, a, b, e)).1) ∧ Below w.heap.size w w' := by
  have hlx : xs.length = n := h.count tnC_len (by omega)
  have hmx := h.max
  have hcx := h.cap
  unfold maxLen at hmx
  have hE0 : Ext.of w (w.alloc (.cells #[.int .i64 d, .int .i64 a, .int .i64 b, .int .i64 e] 39)) := (Ext.of.refl _).alloc _
  have hc : (w.alloc (.cells #[.int .i64 d, .int .i64 a, .int .i64 b, .int .i64 e] 39)).heap[w.heap.size]? = some (.cells #[.int .i64 d, .int .i64 a, .int .i64 b, .int .i64 e] 39 (0, 0)) := alloc_new' rfl
  have C := fun W (hW : Sl W A n c 4 (tns xs)) => tnI_any A n c xs W hW
  have h1 := h.ext hE0
  cases hv : tnV xs with
  | false =>
    have R := hid (add_no (x := (d, a, b, e)) hv)
    rw [hv] at C
    clear hv hlx hc
    go_enter Try.func24, Try.ntmps24
    go_wp2_with fail
    refine (C _ h1).mono ?_
    rintro e' w1 ⟨rfl, x1⟩
    have T1 := (hE0.trans x1).below
    go_wp2
    go_ret2
    exact ⟨_, _, _, ret_sb rfl (by rw [R.out]), by rw [R.out]; exact World.ownsRow_nil _ _ _ _, T1⟩
  | true =>
    have hn := (tnV_len hv).1
    rw [hlx] at hn
    rw [hv] at C
    have HV := hid hv
    have HL := hid hlx
    clear hv hlx
    go_enter Try.func24, Try.ntmps24
    go_wp2_with fail
    refine (C _ h1).mono ?_
    rintro e' w0 ⟨rfl, x1⟩
    have hc := (x1.block (Array.getElem?_eq_some_iff.1 hc).1).trans hc
    have p0 := cell_of_row w0 w.heap.size 0 _ _ _ hc
    have p1 := cell_of_row w0 w.heap.size 1 _ _ _ hc
    have p2 := cell_of_row w0 w.heap.size 2 _ _ _ hc
    have p3 := cell_of_row w0 w.heap.size 3 _ _ _ hc
    have hE := hE0.trans x1
    have S := h.ext hE
    clear x1 hc C h1 hE0
    go_wp2_with fail
    refine (withAtTurn_any _ _ _ n _ d a b e _ S (by omega) (Nat.le_refl _)).mono ?_
    rintro e' w3 ⟨B, d', rfl, o3, b3⟩
    rw [List.take_of_length_le (Nat.le_of_eq HL.out), List.drop_eq_nil_of_le (Nat.le_of_eq HL.out)] at o3
    have T3 := below_next hE.below b3
    have o3 := own_lower o3 hE.size
    clear p0 p1 p2 p3 b3
    clear hE S
    have C2 := fun W (hW : Sl W B (n + 1) d' 4 (tns (xs ++ [(d, a, b, e)]))) => tnI_any B (n + 1) d' (xs ++ [(d, a, b, e)]) W hW
    cases hm : tnV (xs ++ [(d, a, b, e)]) with
    | false =>
      have R := hid (add_not HV.out hm)
      rw [hm] at C2
      clear hm
      go_wp2_with fail
      refine (C2 _ (own_sl o3)).mono ?_
      rintro e' w4 ⟨rfl, x4⟩
      have T4 := below_next T3 x4.below
      clear T3 x4 o3 C2
      go_wp2_with fail
      refine (copyTurn_any _ _ _ _ _ (h.below T4) (by omega)).mono ?_
      rintro e' w5 ⟨B5, d5, rfl, o5, b5⟩
      go_wp2
      go_ret2
      exact ⟨B5, _, d5, ret_sb rfl (by rw [R.out]), by rw [R.out]; exact own_lower o5 T4.size, below_next T4 b5⟩
    | true =>
      have R := hid (add_yes HV.out hm)
      rw [hm] at C2
      clear hm
      go_wp2_with fail
      refine (C2 _ (own_sl o3)).mono ?_
      rintro e' w4 ⟨rfl, x4⟩
      go_wp2
      go_ret2
      exact ⟨B, _, d', ret_sb rfl (by rw [R.out]), by rw [R.out]; exact own_ext o3 x4, below_next T3 x4.below⟩
set_option maxHeartbeats 2000000 in
theorem addTurnS_any (A : Option Addr) (n c : Nat) (xs : List Tn) (d a b e : Int) (w : World) (h : Sl w A n c 4 (tns xs)) :
    Calls Try.prog 22 #[.slice A n c, tnA d a b e] w fun e' w' => ∃ B k d', e' = .returned (.tuple #[.slice B k d', .bool (addV xs (d, a, b, e)).2]) ∧ w'.ownsRow w.heap.size 39 4 (.slice B k d') k (tns (addV xs (d, a, b, e)).1) ∧ Below w.heap.size w w' := by
  have hlx : xs.length = n := h.count tnC_len (by omega)
  have hmx := h.max
  have hcx := h.cap
  unfold maxLen at hmx
  have hE0 : Ext.of w (w.alloc (.cells #[.int .i64 d, .int .i64 a, .int .i64 b, .int .i64 e] 39)) := (Ext.of.refl _).alloc _
  have hc : (w.alloc (.cells #[.int .i64 d, .int .i64 a, .int .i64 b, .int .i64 e] 39)).heap[w.heap.size]? = some (.cells #[.int .i64 d, .int .i64 a, .int .i64 b, .int .i64 e] 39 (0, 0)) := alloc_new' rfl
  have C := fun W (hW : Sl W A n c 4 (tns xs)) => tnS_any A n c xs W hW
  have h1 := h.ext hE0
  cases hv : tnV xs with
  | false =>
    have R := hid (add_no (x := (d, a, b, e)) hv)
    rw [hv] at C
    clear hv hlx hc
    go_enter Try.func22, Try.ntmps22
    go_wp2_with fail
    refine (C _ h1).mono ?_
    rintro e' w1 ⟨rfl, x1⟩
    have T1 := (hE0.trans x1).below
    go_wp2
    go_ret2
    exact ⟨_, _, _, ret_sb rfl (by rw [R.out]), by rw [R.out]; exact own_lower (own_empty w1 39 4) T1.size, T1.alloc T1.size _⟩
  | true =>
    have hn := (tnV_len hv).1
    rw [hlx] at hn
    rw [hv] at C
    have HV := hid hv
    have HL := hid hlx
    clear hv hlx
    go_enter Try.func22, Try.ntmps22
    go_wp2_with fail
    refine (C _ h1).mono ?_
    rintro e' w0 ⟨rfl, x1⟩
    have hc := (x1.block (Array.getElem?_eq_some_iff.1 hc).1).trans hc
    have p0 := cell_of_row w0 w.heap.size 0 _ _ _ hc
    have p1 := cell_of_row w0 w.heap.size 1 _ _ _ hc
    have p2 := cell_of_row w0 w.heap.size 2 _ _ _ hc
    have p3 := cell_of_row w0 w.heap.size 3 _ _ _ hc
    have hE := hE0.trans x1
    have S := h.ext hE
    clear x1 hc C h1 hE0
    have hkn := Nat.le_refl n
    go_wp2
    refine wp_region_live (W := fun _ w' => Below w0.heap.size w0 w') (dead := fun i j => (i == 2 && j == 0) || (i == 5 && j == 0) || (i == 5 && j == 2) || (i == 5 && j == 4) || (i == 6 && j == 0) || (i == 6 && j == 2) || (i == 6 && j == 4) || (i == 6 && j == 5))
      (Tr := fun i a b => match i with | 0 => a.grownBy b none | 4 => a.grownBy b none | 2 => (∀ (g : Nat) (cs : Array Value), a.heap[g]? = some (.cells cs 39 (0, 0)) → 0 < cs.size → b.heap[g]? = a.heap[g]?) | 5 => True | _ => a = b)
      (F := fun i v w' => match i with
        | 0 => ∃ g, v = .slice (some ⟨g, 0, none⟩) 0 0 ∧ w0.heap.size ≤ g ∧ w'.heap[g]? = some (.cells #[] 39 (0, 0))
        | 1 => v = .slice A n c
        | 2 => w'.ownsRow w0.heap.size 39 4 v (n) (tns xs)
        | 3 => v = .agg (tnC (d, a, b, e)).toArray
        | 4 => ∃ g, v = .slice (some ⟨g, 0, none⟩) 1 1 ∧ w0.heap.size ≤ g ∧ w'.heap[g]? = some (.cells (tnC (d, a, b, e)).toArray 39 (0, 0))
        | 5 => w'.ownsRow w0.heap.size 39 4 v (n + 1) (tns (xs ++ [(d, a, b, e)]))
        | 6 => w'.ownsRow w0.heap.size 39 4 v (n + 1) (tns (xs ++ [(d, a, b, e)]))
        | _ => True) (by kernel_rfl) (by kernel_rfl) (by kernel_rfl) ?_ ?_ ?_ ?_
    · exact ⟨rfl, rfl, rfl, Nat.le_refl _, fun _ _ => rfl⟩
    · intro i j kk a b v hi hj hne hdd haa hW hT hF
      match i, j with
      | 0, 0 => exact absurd rfl hne
      | 1, 0 => have hT' : a = b := hT; subst hT'; exact hF
      | 2, 0 => exact absurd hdd (by decide)
      | 3, 0 => have hT' : a = b := hT; subst hT'; exact hF
      | 4, 0 => obtain ⟨g, h1, h2, h3⟩ := hF; exact ⟨g, h1, h2, (hT.block g (Array.getElem?_eq_some_iff.1 h3).1 (by simp)).trans h3⟩
      | 5, 0 => exact absurd hdd (by decide)
      | 6, 0 => exact absurd hdd (by decide)
      | _ + 7, 0 => simp at hi; omega
      | _, 1 => exact hF
      | 0, 2 => exact absurd (haa.symm.trans (show ancB _ _ _ _ = true by kernel_rfl)) (by decide)
      | 1, 2 => exact absurd (haa.symm.trans (show ancB _ _ _ _ = true by kernel_rfl)) (by decide)
      | 2, 2 => exact absurd rfl hne
      | 3, 2 => have hT' : a = b := hT; subst hT'; exact hF
      | 4, 2 => exact World.ownsRow.kept hF hT (by cases hv : v.ownBlock <;> simp)
      | 5, 2 => exact absurd hdd (by decide)
      | 6, 2 => exact absurd hdd (by decide)
      | _ + 7, 2 => simp at hi; omega
      | _, 3 => exact hF
      | 0, 4 => obtain ⟨g, h1, h2, h3⟩ := hF; exact ⟨g, h1, h2, (hT.block g (Array.getElem?_eq_some_iff.1 h3).1 (by simp)).trans h3⟩
      | 1, 4 => have hT' : a = b := hT; subst hT'; exact hF
      | 2, 4 => obtain ⟨g, h1, h2, h3⟩ := hF; exact ⟨g, h1, h2, (hT g _ h3 (by simp [tnC])).trans h3⟩
      | 3, 4 => exact absurd (haa.symm.trans (show ancB _ _ _ _ = true by kernel_rfl)) (by decide)
      | 4, 4 => exact absurd rfl hne
      | 5, 4 => exact absurd hdd (by decide)
      | 6, 4 => exact absurd hdd (by decide)
      | _ + 7, 4 => simp at hi; omega
      | 0, 5 => exact absurd (haa.symm.trans (show ancB _ _ _ _ = true by kernel_rfl)) (by decide)
      | 1, 5 => exact absurd (haa.symm.trans (show ancB _ _ _ _ = true by kernel_rfl)) (by decide)
      | 2, 5 => exact absurd (haa.symm.trans (show ancB _ _ _ _ = true by kernel_rfl)) (by decide)
      | 3, 5 => exact absurd (haa.symm.trans (show ancB _ _ _ _ = true by kernel_rfl)) (by decide)
      | 4, 5 => exact absurd (haa.symm.trans (show ancB _ _ _ _ = true by kernel_rfl)) (by decide)
      | 5, 5 => exact absurd rfl hne
      | 6, 5 => exact absurd hdd (by decide)
      | _ + 7, 5 => simp at hi; omega
      | 0, 6 => exact absurd (haa.symm.trans (show ancB _ _ _ _ = true by kernel_rfl)) (by decide)
      | 1, 6 => exact absurd (haa.symm.trans (show ancB _ _ _ _ = true by kernel_rfl)) (by decide)
      | 2, 6 => exact absurd (haa.symm.trans (show ancB _ _ _ _ = true by kernel_rfl)) (by decide)
      | 3, 6 => exact absurd (haa.symm.trans (show ancB _ _ _ _ = true by kernel_rfl)) (by decide)
      | 4, 6 => exact absurd (haa.symm.trans (show ancB _ _ _ _ = true by kernel_rfl)) (by decide)
      | 5, 6 => exact absurd (haa.symm.trans (show ancB _ _ _ _ = true by kernel_rfl)) (by decide)
      | 6, 6 => exact absurd rfl hne
      | _ + 7, 6 => simp at hi; omega
      | _, _ + 7 => simp at hj; omega
    · refine ⟨fun kk ρ u hkk hc hf hb hW hd => ?_, ?_⟩
      · have hz := hW.size
        exact yield_value (w' := u.alloc (.cells #[] 39)) (.slice (some ⟨u.heap.size, 0, none⟩) 0 0) (by simp [go_sem, hc]) ⟨⟨_, rfl, hz, alloc_new' rfl⟩, hW.alloc hz _, World.grownBy_alloc _ _ _⟩
      refine ⟨fun kk ρ u hkk hc hf hb hW hd => ?_, ?_⟩
      · exact yield_move _ rfl ⟨hb 0 (by kernel_rfl), hW, rfl⟩
      refine ⟨fun kk ρ u hkk hc hf hb hW hd => ?_, ?_⟩
      · obtain ⟨g, e1, hgB, hgc⟩ : ∃ g, ρ (.tmp 11) = .slice (some ⟨g, 0, none⟩) 0 0 ∧ w0.heap.size ≤ g ∧ u.heap[g]? = some (.cells #[] 39 (0, 0)) := hd.1 rfl rfl
        have e2 : ρ (.tmp 12) = .slice A n c := hd.2.1 rfl rfl
        clear hd hb
        have s1 := S.below hW
        refine yield_append (.tmp 11) (.tmp 12) eltTurn rfl w0.heap.size _ 0 [] e1 (own_lit0 hgB hgc) A n c (tns xs) e2 s1.see (s1.of_none (by decide)) s1.len (flat_one tnC_one _) (by unfold maxLen; omega) (by omega) hW.size ?_
        intro v' w' O G _
        rw [Nat.zero_add, List.nil_append] at O
        refine ⟨O, hW.grown G hW.size (fun q hq => by simp [Value.ownBlock] at hq; omega), fun g' cs hg' hcs => G.block g' (Array.getElem?_eq_some_iff.1 hg').1 (fun e => ?_)⟩
        simp [Value.ownBlock] at e
        subst e
        rw [hgc] at hg'
        injection hg' with hg'
        injection hg' with hg'
        subst hg'
        simp at hcs
      refine ⟨fun kk ρ u hkk hc hf hb hW hd => ?_, ?_⟩
      · have e1 : ρ (.tmp 3) = .pointer (some ⟨w.heap.size, 0, none⟩) := hb 3 (by kernel_rfl)
        clear hd hb
        have x0 := (hW.cell (World.block_lt_of_cell? _ _ p0)).trans p0
        have x1 := (hW.cell (World.block_lt_of_cell? _ _ p1)).trans p1
        have x2 := (hW.cell (World.block_lt_of_cell? _ _ p2)).trans p2
        have x3 := (hW.cell (World.block_lt_of_cell? _ _ p3)).trans p3
        exact yield_value (w' := u) (.agg (tnC (d, a, b, e)).toArray) (by simp [go_sem, hc, hf, e1, x0, x1, x2, x3]) ⟨rfl, hW, rfl⟩
      refine ⟨fun kk ρ u hkk hc hf hb hW hd => ?_, ?_⟩
      · have e1 : ρ (.tmp 14) = .agg (tnC (d, a, b, e)).toArray := hd.1 rfl rfl
        clear hd hb
        have hz := hW.size
        exact yield_value (w' := u.alloc (.cells (tnC (d, a, b, e)).toArray 39)) (.slice (some ⟨u.heap.size, 0, none⟩) 1 1) (by simp [go_sem, hc, hf, e1]) ⟨⟨_, rfl, hz, alloc_new' rfl⟩, hW.alloc hz _, World.grownBy_alloc _ _ _⟩
      refine ⟨fun kk ρ u hkk hc hf hb hW hd => ?_, ?_⟩
      · have O1 : u.ownsRow w0.heap.size 39 4 (ρ (.tmp 13)) n (tns xs) := hd.1 rfl rfl
        obtain ⟨g, e2, hgB, hgc⟩ : ∃ g, ρ (.tmp 15) = .slice (some ⟨g, 0, none⟩) 1 1 ∧ w0.heap.size ≤ g ∧ u.heap[g]? = some (.cells (tnC (d, a, b, e)).toArray 39 (0, 0)) := hd.2.1 rfl rfl
        clear hd hb
        refine yield_append (.tmp 13) (.tmp 15) eltTurn rfl w0.heap.size _ n _ rfl O1 (some ⟨g, 0, none⟩) 1 1 (tnC (d, a, b, e)) e2 (see_lit hgc) (by simp) rfl (tnC_one _) (by unfold maxLen; omega) (by omega) hW.size ?_
        intro v' w' O G _
        rw [show tns xs ++ tnC (d, a, b, e) = tns (xs ++ [(d, a, b, e)]) by simp [flat]] at O
        exact ⟨O, hW.grown G hW.size (fun q hq => (O1.lt q hq).1), trivial⟩
      refine ⟨fun kk ρ u hkk hc hf hb hW hd => ?_, ?_⟩
      · exact yield_assign _ rfl ⟨hd.1 rfl rfl, hW, rfl⟩
      trivial
    intro env w2 B2 hF
    have O : w2.ownsRow w0.heap.size 39 4 (env 6) (n + 1) (tns (xs ++ [(d, a, b, e)])) := hF 6 (of_decide_eq_true (by kernel_rfl)) (fun i hi => by match i with | 0 | 1 | 2 | 3 | 4 | 5 | 6 => rfl | _ + 7 => simp at hi; omega)
    clear hF
    have hr : List.range 24 = [0, 1, 2, 3, 4, 5, 6, 7, 8, 9, 10, 11, 12, 13, 14, 15, 16, 17, 18, 19, 20, 21, 22, 23] := rfl
    unfold after
    simp only [List.size_toArray, List.length_cons, List.length_nil, Nat.reduceAdd, hr, List.map_cons, List.map_nil]
    simp [idxOf, List.findIdx?, List.findIdx?.go]
    clear hr
    obtain ⟨B, d', hv, _⟩ := own_form O
    rw [hv] at O ⊢
    have T3 := below_next hE.below B2
    have o3 := own_lower O hE.size
    clear O B2 hv p0 p1 p2 p3
    clear hE S
    have C2 := fun W (hW : Sl W B (n + 1) d' 4 (tns (xs ++ [(d, a, b, e)]))) => tnS_any B (n + 1) d' (xs ++ [(d, a, b, e)]) W hW
    cases hm : tnV (xs ++ [(d, a, b, e)]) with
    | false =>
      have R := hid (add_not HV.out hm)
      rw [hm] at C2
      clear hm
      go_wp2_with fail
      refine (C2 _ (own_sl o3)).mono ?_
      rintro e' w4 ⟨rfl, x4⟩
      have T4 := below_next T3 x4.below
      clear T3 x4 o3 C2
      have s4 := (h.below T4)
      go_wp2_with (at_builtin; refine wpList_append_see _ rfl (.tmp 20) (.tmp 21) eltTurn rfl w4.heap.size (.slice (some ⟨w4.heap.size, 0, none⟩) 0 0) 0 [] rfl (own_empty w4 39 4) A n c (tns xs) rfl (s4.see.alloc _) (s4.of_none (by decide)) s4.len (flat_one tnC_one _) (by unfold maxLen; omega) (by omega) (by simp) ?_; intro v5 w5 o5 g5 a5)
      rw [Nat.zero_add, List.nil_append] at o5
      have b5 : Below w4.heap.size w4 w5 := ((Below.refl _ _).alloc (Nat.le_refl _) _).grown g5 (by simp) (by rintro k' hk'; simp [Value.ownBlock] at hk'; omega)
      obtain ⟨B5, d5, rfl, _⟩ := own_form o5
      clear g5 a5 s4
      go_wp2
      go_ret2
      exact ⟨B5, _, d5, ret_sb rfl (by rw [R.out]), by rw [R.out]; exact own_lower o5 T4.size, below_next T4 b5⟩
    | true =>
      have R := hid (add_yes HV.out hm)
      rw [hm] at C2
      clear hm
      go_wp2_with fail
      refine (C2 _ (own_sl o3)).mono ?_
      rintro e' w4 ⟨rfl, x4⟩
      go_wp2
      go_ret2
      exact ⟨B, _, d', ret_sb rfl (by rw [R.out]), by rw [R.out]; exact own_ext o3 x4, below_next T3 x4.below⟩
end Go.Proofs.Ytcpepjnmjiffcaa
