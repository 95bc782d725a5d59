/- What the reference's AddDelivery leaves; and the contracts of DueAt. -/
import Derived.Test.YtbnoonaefcogdaaPlainDel
import Derived.Test.YtbnoonaefcogdaaDeliveryMem
import Derived.Test.YtbnoonaefcogdaaChain
namespace Go.Proofs.Ytbnoonaefcogdaa
open Go.RowKit
set_option linter.unusedVariables false
set_option linter.unusedSimpArgs false
theorem dlOk_ins {xs : List Dl} {x : Dl} (h : dlOk xs) (hx : x.2.1.size ≤ 9223372036854775807) (k : Nat) : dlOk (xs.take k ++ x :: xs.drop k) := by
  intro z hz
  rw [List.mem_append, List.mem_cons] at hz
  rcases hz with hz | rfl | hz
  · exact h z (List.mem_of_mem_take hz)
  · exact hx
  · exact h z (List.mem_of_mem_drop hz)
set_option maxHeartbeats 2000000 in
theorem addDelS_any (A : Option Addr) (n c : Nat) (xs : List Dl) (m : Int) (a : ByteArray) (t y : Int) (w : World) (h : Sl w A n c 4 (dls xs)) (hok : dlOk xs) (ha : a.size ≤ 9223372036854775807) :
    Calls Try.prog 26 #[.slice A n c, dlA m a t y] w fun e w' => ∃ B k d ys b, e = .returned (.tuple #[.slice B k d, .bool b]) ∧ w'.ownsRow w.heap.size 28 4 (.slice B k d) k (dls ys) ∧ dlOk ys ∧ k ≤ 11 ∧ Below w.heap.size w w' := by
  have hlx : xs.length = n := h.count dlC_len (by omega)
  have hmx := h.max
  have hcx := h.cap
  unfold maxLen at hmx
  have C := fun W (hW : Sl W A n c 4 (dls xs)) => dlS_any A n c xs W hW hok
  cases hv : dlV xs with
  | false =>
    rw [hv] at C
    clear hv hok hlx
    go_enter Try.func26, Try.ntmps26
    go_wp2_with fail
    refine (C _ (h.alloc _)).mono ?_
    rintro e w1 ⟨rfl, x1⟩
    go_wp2
    go_ret2
    have T1 := (((Ext.of.refl w).alloc (Obj.cells #[Value.int IntKind.i64 m, Value.string a, Value.int IntKind.i64 t, Value.int IntKind.i64 y] 28)).trans x1).below
    exact ⟨_, _, _, [], false, rfl, own_lower (own_empty w1 28 4) T1.size, (by intro z hz; simp at hz), by omega, T1.alloc T1.size _⟩
  | true =>
    have hn := (dlV_len hv).1
    rw [hlx] at hn
    rw [hv] at C
    have HOK := hid hok
    have HL := hid hlx
    have HA := hid ha
    clear hv hok hlx ha
    go_enter Try.func26, Try.ntmps26
    go_wp2_with fail
    refine (C _ (h.alloc _)).mono ?_
    rintro e w1 ⟨rfl, x1⟩
    have hE : Ext.of w w1 := ((Ext.of.refl _).alloc _).trans x1
    have hc : w1.heap[w.heap.size]? = some (.cells #[Value.int IntKind.i64 m, Value.string a, Value.int IntKind.i64 t, Value.int IntKind.i64 y] 28 (0, 0)) := (x1.block (by simp)).trans (alloc_new' rfl)
    have p0 : w1.cell? ⟨w.heap.size, 0, none⟩ = some (.int .i64 m) := cell_of_row w1 w.heap.size 0 _ _ _ hc
    have p1 : w1.cell? ⟨w.heap.size, 1, none⟩ = some (.string a) := cell_of_row w1 w.heap.size 1 _ _ _ hc
    have p2 : w1.cell? ⟨w.heap.size, 2, none⟩ = some (.int .i64 t) := cell_of_row w1 w.heap.size 2 _ _ _ hc
    have p3 : w1.cell? ⟨w.heap.size, 3, none⟩ = some (.int .i64 y) := cell_of_row w1 w.heap.size 3 _ _ _ hc
    clear x1 hc C
    go_wp2
    go_loopw [6] (fun i wr => ∃ (k : Nat) (z : Ext), k ≤ n ∧ i = .int .i64 k ∧ wr = More w1 z) (fun i _ => (intOf i).toNat)
    case atStart => exact ⟨n, _, Nat.le_refl _, rfl, more_refl w1⟩
    case round =>
      obtain ⟨k, z, hkn, rfl, rfl⟩ := hrel
      have g3 := more_cell2 p3 z
      have hEz : Ext.of w (More w1 z) := hE.trans ⟨z, rfl⟩
      by_cases hk0 : k = 0
      · have HK := hid hk0
        have t0 : decide (0 < k) = false := by simp; omega
        clear hk0 hE
        go_wp2
        refine wp_region_more (by kernel_rfl) (by kernel_rfl) ?_
        repeat (go_big_quiet_step (fail))
        refine wpQuiet_nil ?_
        rintro _ ⟨z1, rfl⟩
        have hE2 := hEz.trans ⟨z1, rfl⟩
        have p0 := more_cell2 p0 z z1
        have p1 := more_cell2 p1 z z1
        have p2 := more_cell2 p2 z z1
        have p3 := more_cell2 p3 z z1
        clear g3 hEz
        go_wp2
        have S := h.ext hE2
        generalize hW2 : More (More w1 z) z1 = w0 at *
        clear hW2
        refine wp_region_live (W := fun _ w' => Below w0.heap.size w0 w') (dead := fun i j => (i == 4 && j == 0) || (i == 7 && j == 0) || (i == 7 && j == 4) || (i == 7 && j == 6) || (i == 11 && j == 0) || (i == 11 && j == 4) || (i == 11 && j == 6) || (i == 11 && j == 7) || (i == 12 && j == 0) || (i == 12 && j == 4) || (i == 12 && j == 6) || (i == 12 && j == 7) || (i == 12 && j == 11))
          (Tr := fun i a b => match i with | 0 => a.grownBy b none | 6 => a.grownBy b none | 4 => (∀ (g : Nat) (cs : Array Value), a.heap[g]? = some (.cells cs 28 (0, 0)) → 0 < cs.size → b.heap[g]? = a.heap[g]?) | 7 => True | 11 => True | _ => a = b)
          (F := fun i v w' => match i with
            | 0 => ∃ g, v = .slice (some ⟨g, 0, none⟩) 0 0 ∧ w0.heap.size ≤ g ∧ w'.heap[g]? = some (.cells #[] 28 (0, 0))
            | 1 => v = .slice A n c
            | 2 => v = .int .i64 k
            | 3 => v = .slice A k c
            | 4 => w'.ownsRow w0.heap.size 28 4 v (k) (dls (xs.take k))
            | 5 => v = .agg (dlC (m, a, t, y)).toArray
            | 6 => ∃ g, v = .slice (some ⟨g, 0, none⟩) 1 1 ∧ w0.heap.size ≤ g ∧ w'.heap[g]? = some (.cells (dlC (m, a, t, y)).toArray 28 (0, 0))
            | 7 => w'.ownsRow w0.heap.size 28 4 v (k + 1) (dls (xs.take k) ++ dlC (m, a, t, y))
            | 8 => v = .slice A n c
            | 9 => v = .int .i64 k
            | 10 => v = .slice (if c = k then A else A.map (fun x => x.add (k * 4))) (n - k) (c - k)
            | 11 => w'.ownsRow w0.heap.size 28 4 v (n + 1) (dls (xs.take k ++ (m, a, t, y) :: xs.drop k))
            | 12 => w'.ownsRow w0.heap.size 28 4 v (n + 1) (dls (xs.take k ++ (m, a, t, y) :: xs.drop k))
            | _ => True) (by kernel_rfl) (by kernel_rfl) (by kernel_rfl) ?_ ?_ ?_ ?_
        · exact ⟨rfl, rfl, rfl, Nat.le_refl _, fun _ _ => rfl⟩
        · intro i j kk a b v hi hj hne hdd haa hW hT hF
          match i, j with
          | 0, 0 => exact absurd rfl hne
          | 1, 0 => have hT' : a = b := hT; subst hT'; exact hF
          | 2, 0 => have hT' : a = b := hT; subst hT'; exact hF
          | 3, 0 => have hT' : a = b := hT; subst hT'; exact hF
          | 4, 0 => exact absurd hdd (by decide)
          | 5, 0 => have hT' : a = b := hT; subst hT'; exact hF
          | 6, 0 => obtain ⟨g, h1, h2, h3⟩ := hF; exact ⟨g, h1, h2, (hT.block g (Array.getElem?_eq_some_iff.1 h3).1 (by simp)).trans h3⟩
          | 7, 0 => exact absurd hdd (by decide)
          | 8, 0 => have hT' : a = b := hT; subst hT'; exact hF
          | 9, 0 => have hT' : a = b := hT; subst hT'; exact hF
          | 10, 0 => have hT' : a = b := hT; subst hT'; exact hF
          | 11, 0 => exact absurd hdd (by decide)
          | 12, 0 => exact absurd hdd (by decide)
          | _ + 13, 0 => simp at hi; omega
          | _, 1 => exact hF
          | _, 2 => exact hF
          | _, 3 => exact hF
          | 0, 4 => exact absurd (haa.symm.trans (show ancB _ _ _ _ = true by kernel_rfl)) (by decide)
          | 1, 4 => exact absurd (haa.symm.trans (show ancB _ _ _ _ = true by kernel_rfl)) (by decide)
          | 2, 4 => exact absurd (haa.symm.trans (show ancB _ _ _ _ = true by kernel_rfl)) (by decide)
          | 3, 4 => exact absurd (haa.symm.trans (show ancB _ _ _ _ = true by kernel_rfl)) (by decide)
          | 4, 4 => exact absurd rfl hne
          | 5, 4 => have hT' : a = b := hT; subst hT'; exact hF
          | 6, 4 => exact World.ownsRow.kept hF hT (by cases hv : v.ownBlock <;> simp)
          | 7, 4 => exact absurd hdd (by decide)
          | 8, 4 => have hT' : a = b := hT; subst hT'; exact hF
          | 9, 4 => have hT' : a = b := hT; subst hT'; exact hF
          | 10, 4 => have hT' : a = b := hT; subst hT'; exact hF
          | 11, 4 => exact absurd hdd (by decide)
          | 12, 4 => exact absurd hdd (by decide)
          | _ + 13, 4 => simp at hi; omega
          | _, 5 => exact hF
          | 0, 6 => obtain ⟨g, h1, h2, h3⟩ := hF; exact ⟨g, h1, h2, (hT.block g (Array.getElem?_eq_some_iff.1 h3).1 (by simp)).trans h3⟩
          | 1, 6 => have hT' : a = b := hT; subst hT'; exact hF
          | 2, 6 => have hT' : a = b := hT; subst hT'; exact hF
          | 3, 6 => have hT' : a = b := hT; subst hT'; exact hF
          | 4, 6 => obtain ⟨g, h1, h2, h3⟩ := hF; exact ⟨g, h1, h2, (hT g _ h3 (by simp [dlC])).trans h3⟩
          | 5, 6 => exact absurd (haa.symm.trans (show ancB _ _ _ _ = true by kernel_rfl)) (by decide)
          | 6, 6 => exact absurd rfl hne
          | 7, 6 => exact absurd hdd (by decide)
          | 8, 6 => have hT' : a = b := hT; subst hT'; exact hF
          | 9, 6 => have hT' : a = b := hT; subst hT'; exact hF
          | 10, 6 => have hT' : a = b := hT; subst hT'; exact hF
          | 11, 6 => exact absurd hdd (by decide)
          | 12, 6 => exact absurd hdd (by decide)
          | _ + 13, 6 => simp at hi; omega
          | 0, 7 => exact absurd (haa.symm.trans (show ancB _ _ _ _ = true by kernel_rfl)) (by decide)
          | 1, 7 => exact absurd (haa.symm.trans (show ancB _ _ _ _ = true by kernel_rfl)) (by decide)
          | 2, 7 => exact absurd (haa.symm.trans (show ancB _ _ _ _ = true by kernel_rfl)) (by decide)
          | 3, 7 => exact absurd (haa.symm.trans (show ancB _ _ _ _ = true by kernel_rfl)) (by decide)
          | 4, 7 => exact absurd (haa.symm.trans (show ancB _ _ _ _ = true by kernel_rfl)) (by decide)
          | 5, 7 => exact absurd (haa.symm.trans (show ancB _ _ _ _ = true by kernel_rfl)) (by decide)
          | 6, 7 => exact absurd (haa.symm.trans (show ancB _ _ _ _ = true by kernel_rfl)) (by decide)
          | 7, 7 => exact absurd rfl hne
          | 8, 7 => have hT' : a = b := hT; subst hT'; exact hF
          | 9, 7 => have hT' : a = b := hT; subst hT'; exact hF
          | 10, 7 => have hT' : a = b := hT; subst hT'; exact hF
          | 11, 7 => exact absurd hdd (by decide)
          | 12, 7 => exact absurd hdd (by decide)
          | _ + 13, 7 => simp at hi; omega
          | _, 8 => exact hF
          | _, 9 => exact hF
          | _, 10 => exact hF
          | 0, 11 => exact absurd (haa.symm.trans (show ancB _ _ _ _ = true by kernel_rfl)) (by decide)
          | 1, 11 => exact absurd (haa.symm.trans (show ancB _ _ _ _ = true by kernel_rfl)) (by decide)
          | 2, 11 => exact absurd (haa.symm.trans (show ancB _ _ _ _ = true by kernel_rfl)) (by decide)
          | 3, 11 => exact absurd (haa.symm.trans (show ancB _ _ _ _ = true by kernel_rfl)) (by decide)
          | 4, 11 => exact absurd (haa.symm.trans (show ancB _ _ _ _ = true by kernel_rfl)) (by decide)
          | 5, 11 => exact absurd (haa.symm.trans (show ancB _ _ _ _ = true by kernel_rfl)) (by decide)
          | 6, 11 => exact absurd (haa.symm.trans (show ancB _ _ _ _ = true by kernel_rfl)) (by decide)
          | 7, 11 => exact absurd (haa.symm.trans (show ancB _ _ _ _ = true by kernel_rfl)) (by decide)
          | 8, 11 => exact absurd (haa.symm.trans (show ancB _ _ _ _ = true by kernel_rfl)) (by decide)
          | 9, 11 => exact absurd (haa.symm.trans (show ancB _ _ _ _ = true by kernel_rfl)) (by decide)
          | 10, 11 => exact absurd (haa.symm.trans (show ancB _ _ _ _ = true by kernel_rfl)) (by decide)
          | 11, 11 => exact absurd rfl hne
          | 12, 11 => exact absurd hdd (by decide)
          | _ + 13, 11 => simp at hi; omega
          | 0, 12 => exact absurd (haa.symm.trans (show ancB _ _ _ _ = true by kernel_rfl)) (by decide)
          | 1, 12 => exact absurd (haa.symm.trans (show ancB _ _ _ _ = true by kernel_rfl)) (by decide)
          | 2, 12 => exact absurd (haa.symm.trans (show ancB _ _ _ _ = true by kernel_rfl)) (by decide)
          | 3, 12 => exact absurd (haa.symm.trans (show ancB _ _ _ _ = true by kernel_rfl)) (by decide)
          | 4, 12 => exact absurd (haa.symm.trans (show ancB _ _ _ _ = true by kernel_rfl)) (by decide)
          | 5, 12 => exact absurd (haa.symm.trans (show ancB _ _ _ _ = true by kernel_rfl)) (by decide)
          | 6, 12 => exact absurd (haa.symm.trans (show ancB _ _ _ _ = true by kernel_rfl)) (by decide)
          | 7, 12 => exact absurd (haa.symm.trans (show ancB _ _ _ _ = true by kernel_rfl)) (by decide)
          | 8, 12 => exact absurd (haa.symm.trans (show ancB _ _ _ _ = true by kernel_rfl)) (by decide)
          | 9, 12 => exact absurd (haa.symm.trans (show ancB _ _ _ _ = true by kernel_rfl)) (by decide)
          | 10, 12 => exact absurd (haa.symm.trans (show ancB _ _ _ _ = true by kernel_rfl)) (by decide)
          | 11, 12 => exact absurd (haa.symm.trans (show ancB _ _ _ _ = true by kernel_rfl)) (by decide)
          | 12, 12 => exact absurd rfl hne
          | _ + 13, 12 => simp at hi; omega
          | _, _ + 13 => simp at hj; omega
        · refine ⟨fun kk ρ u hkk hc hf hb hW hd => ?_, ?_⟩
          · have hz := hW.size
            exact yield_value (w' := u.alloc (.cells #[] 28)) (.slice (some ⟨u.heap.size, 0, none⟩) 0 0) (by simp [go_sem, hc]) ⟨⟨_, rfl, hz, alloc_new' rfl⟩, hW.alloc hz _, World.grownBy_alloc _ _ _⟩
          refine ⟨fun kk ρ u hkk hc hf hb hW hd => ?_, ?_⟩
          · exact yield_move _ rfl ⟨hb 0 (by kernel_rfl), hW, rfl⟩
          refine ⟨fun kk ρ u hkk hc hf hb hW hd => ?_, ?_⟩
          · exact yield_move _ rfl ⟨hb 6 (by kernel_rfl), hW, rfl⟩
          refine ⟨fun kk ρ u hkk hc hf hb hW hd => ?_, ?_⟩
          · have e1 : ρ (.tmp 30) = .slice A n c := hd.1 rfl rfl
            have e2 : ρ (.tmp 31) = .int .i64 k := hd.2.1 rfl rfl
            clear hd hb
            have hkc : (k : Int) ≤ (c : Int) := by omega
            exact yield_value (w' := u) (.slice A k c) (by simp [go_sem, hc, hf, e1, e2, hkc]) ⟨rfl, hW, rfl⟩
          refine ⟨fun kk ρ u hkk hc hf hb hW hd => ?_, ?_⟩
          · obtain ⟨g, e1, hgB, hgc⟩ : ∃ g, ρ (.tmp 29) = .slice (some ⟨g, 0, none⟩) 0 0 ∧ w0.heap.size ≤ g ∧ u.heap[g]? = some (.cells #[] 28 (0, 0)) := hd.1 rfl rfl
            have e2 : ρ (.tmp 32) = .slice A k c := hd.2.1 rfl rfl
            clear hd hb
            have s1 := (S.sub0 (m := k) hkn).below hW
            rw [flat_take dlC_len] at s1
            refine yield_append (.tmp 29) (.tmp 32) eltDelivery rfl w0.heap.size _ 0 [] e1 (own_lit0 hgB hgc) A k c (dls (xs.take k)) e2 s1.see (s1.of_none (by decide)) s1.len (flat_one dlC_one _) (by unfold maxLen; omega) (by omega) hW.size ?_
            intro v' w' O G _
            rw [Nat.zero_add, List.nil_append] at O
            refine ⟨O, hW.grown G hW.size (fun q hq => by simp [Value.ownBlock] at hq; omega), fun g' cs hg' hcs => G.block g' (Array.getElem?_eq_some_iff.1 hg').1 (fun e => ?_)⟩
            simp [Value.ownBlock] at e
            subst e
            rw [hgc] at hg'
            injection hg' with hg'
            injection hg' with hg'
            subst hg'
            simp at hcs
          refine ⟨fun kk ρ u hkk hc hf hb hW hd => ?_, ?_⟩
          · have e1 : ρ (.tmp 3) = .pointer (some ⟨w.heap.size, 0, none⟩) := hb 3 (by kernel_rfl)
            clear hd hb
            have x0 := (hW.cell (World.block_lt_of_cell? _ _ p0)).trans p0
            have x1 := (hW.cell (World.block_lt_of_cell? _ _ p1)).trans p1
            have x2 := (hW.cell (World.block_lt_of_cell? _ _ p2)).trans p2
            have x3 := (hW.cell (World.block_lt_of_cell? _ _ p3)).trans p3
            exact yield_value (w' := u) (.agg (dlC (m, a, t, y)).toArray) (by simp [go_sem, hc, hf, e1, x0, x1, x2, x3]) ⟨rfl, hW, rfl⟩
          refine ⟨fun kk ρ u hkk hc hf hb hW hd => ?_, ?_⟩
          · have e1 : ρ (.tmp 34) = .agg (dlC (m, a, t, y)).toArray := hd.1 rfl rfl
            clear hd hb
            have hz := hW.size
            exact yield_value (w' := u.alloc (.cells (dlC (m, a, t, y)).toArray 28)) (.slice (some ⟨u.heap.size, 0, none⟩) 1 1) (by simp [go_sem, hc, hf, e1]) ⟨⟨_, rfl, hz, alloc_new' rfl⟩, hW.alloc hz _, World.grownBy_alloc _ _ _⟩
          refine ⟨fun kk ρ u hkk hc hf hb hW hd => ?_, ?_⟩
          · have O1 : u.ownsRow w0.heap.size 28 4 (ρ (.tmp 33)) k (dls (xs.take k)) := hd.1 rfl rfl
            obtain ⟨g, e2, hgB, hgc⟩ : ∃ g, ρ (.tmp 35) = .slice (some ⟨g, 0, none⟩) 1 1 ∧ w0.heap.size ≤ g ∧ u.heap[g]? = some (.cells (dlC (m, a, t, y)).toArray 28 (0, 0)) := hd.2.1 rfl rfl
            clear hd hb
            refine yield_append (.tmp 33) (.tmp 35) eltDelivery rfl w0.heap.size _ k _ rfl O1 (some ⟨g, 0, none⟩) 1 1 (dlC (m, a, t, y)) e2 (see_lit hgc) (by simp) rfl (dlC_one _) (by unfold maxLen; omega) (by omega) hW.size ?_
            intro v' w' O G _
            exact ⟨O, hW.grown G hW.size (fun q hq => (O1.lt q hq).1), trivial⟩
          refine ⟨fun kk ρ u hkk hc hf hb hW hd => ?_, ?_⟩
          · exact yield_move _ rfl ⟨hb 0 (by kernel_rfl), hW, rfl⟩
          refine ⟨fun kk ρ u hkk hc hf hb hW hd => ?_, ?_⟩
          · exact yield_move _ rfl ⟨hb 6 (by kernel_rfl), hW, rfl⟩
          refine ⟨fun kk ρ u hkk hc hf hb hW hd => ?_, ?_⟩
          · have e1 : ρ (.tmp 37) = .slice A n c := hd.1 rfl rfl
            have e2 : ρ (.tmp 38) = .int .i64 k := hd.2.1 rfl rfl
            clear hd hb
            have hkn' : (k : Int) ≤ (n : Int) := by omega
            exact yield_value (w' := u) (.slice (if c = k then A else A.map (fun x => x.add (k * 4))) (n - k) (c - k)) (by simp [go_sem, hc, hf, e1, e2, hkn']) ⟨rfl, hW, rfl⟩
          refine ⟨fun kk ρ u hkk hc hf hb hW hd => ?_, ?_⟩
          · have O1 : u.ownsRow w0.heap.size 28 4 (ρ (.tmp 36)) (k + 1) (dls (xs.take k) ++ dlC (m, a, t, y)) := hd.1 rfl rfl
            have e2 : ρ (.tmp 39) = .slice (if c = k then A else A.map (fun x => x.add (k * 4))) (n - k) (c - k) := hd.2.1 rfl rfl
            clear hd hb
            have s2 := (S.cut (k := k) (K := k * 4) hkn rfl).below hW
            rw [flat_drop dlC_len] at s2
            refine yield_append (.tmp 36) (.tmp 39) eltDelivery rfl w0.heap.size _ (k + 1) _ rfl O1 _ _ _ (dls (xs.drop k)) e2 s2.see (s2.of_none (by decide)) s2.len (flat_one dlC_one _) (by unfold maxLen; omega) (by omega) hW.size ?_
            intro v' w' O G _
            rw [show k + 1 + (n - k) = n + 1 by omega, show dls (xs.take k) ++ dlC (m, a, t, y) ++ dls (xs.drop k) = dls (xs.take k ++ (m, a, t, y) :: xs.drop k) by simp [flat]] at O
            exact ⟨O, hW.grown G hW.size (fun q hq => (O1.lt q hq).1), trivial⟩
          refine ⟨fun kk ρ u hkk hc hf hb hW hd => ?_, ?_⟩
          · exact yield_assign _ rfl ⟨hd.1 rfl rfl, hW, rfl⟩
          trivial
        intro env w2 B2 hF
        have O : w2.ownsRow w0.heap.size 28 4 (env 12) (n + 1) (dls (xs.take k ++ (m, a, t, y) :: xs.drop k)) := hF 12 (of_decide_eq_true (by kernel_rfl)) (fun i hi => by match i with | 0 | 1 | 2 | 3 | 4 | 5 | 6 | 7 | 8 | 9 | 10 | 11 | 12 => rfl | _ + 13 => simp at hi; omega)
        clear hF
        have hr : List.range 48 = [0, 1, 2, 3, 4, 5, 6, 7, 8, 9, 10, 11, 12, 13, 14, 15, 16, 17, 18, 19, 20, 21, 22, 23, 24, 25, 26, 27, 28, 29, 30, 31, 32, 33, 34, 35, 36, 37, 38, 39, 40, 41, 42, 43, 44, 45, 46, 47] := rfl
        unfold after
        simp only [List.size_toArray, List.length_cons, List.length_nil, Nat.reduceAdd, hr, List.map_cons, List.map_nil]
        simp [idxOf, List.findIdx?, List.findIdx?.go]
        clear hr
        obtain ⟨B, d, hv, _⟩ := own_form O
        rw [hv] at O ⊢
        have T3 := below_next hE2.below B2
        have o3 := own_lower O hE2.size
        clear O B2 hv p0 p1 p2 p3
        have HO := hid (dlOk_ins (x := (m, a, t, y)) HOK.out HA.out k)
        generalize xs.take k ++ (m, a, t, y) :: xs.drop k = zs at *
        have C2 := fun W (hW : Sl W B (n + 1) d 4 (dls zs)) => dlS_any B (n + 1) d zs W hW HO.out
        clear hE2 S
        cases hm : dlV zs with
        | false =>
          rw [hm] at C2
          clear hm
          go_wp2_with fail
          refine (C2 _ (own_sl o3)).mono ?_
          rintro e w4 ⟨rfl, x4⟩
          have T4 := below_next T3 x4.below
          clear T3 x4 o3 C2
          have s4 := (h.below T4)
          go_wp2_with (at_builtin; refine wpList_append_see _ rfl (.tmp 44) (.tmp 45) eltDelivery rfl w4.heap.size (.slice (some ⟨w4.heap.size, 0, none⟩) 0 0) 0 [] rfl (own_empty w4 28 4) A n c (dls xs) rfl (s4.see.alloc _) (s4.of_none (by decide)) s4.len (flat_one dlC_one _) (by unfold maxLen; omega) (by omega) (by simp) ?_; intro v5 w5 o5 g5 a5)
          rw [Nat.zero_add, List.nil_append] at o5
          have b5 : Below w4.heap.size w4 w5 := ((Below.refl _ _).alloc (Nat.le_refl _) _).grown g5 (by simp) (by rintro k' hk'; simp [Value.ownBlock] at hk'; omega)
          obtain ⟨B5, d5, rfl, _⟩ := own_form o5
          clear g5 a5 s4
          go_wp2
          go_ret2
          exact ⟨B5, _, d5, xs, false, rfl, own_lower o5 T4.size, HOK.out, by omega, below_next T4 b5⟩
        | true =>
          rw [hm] at C2
          clear hm
          go_wp2_with fail
          refine (C2 _ (own_sl o3)).mono ?_
          rintro e w4 ⟨rfl, x4⟩
          go_wp2
          go_ret2
          exact ⟨B, _, d, zs, true, rfl, own_ext o3 x4, HO.out, by omega, below_next T3 x4.below⟩
      · have hk1 : 0 < k := by omega
        obtain ⟨ad, m', a', t', y', hA, _, _, _, _, q3⟩ := (h.ext hEz).dl (j := k - 1) (by omega)
        subst hA
        have q3 := more_cell q3
        by_cases hyy : y < y'
        · have t1 : decide (y < y') = true := by simpa using hyy
          clear hk0 hE hyy
          go_wp2
          refine wp_region_more (by kernel_rfl) (by kernel_rfl) ?_
          repeat (go_big_quiet_step (fail))
          refine wpQuiet_nil ?_
          rintro _ ⟨z1, rfl⟩
          clear q3 g3
          go_wp2
          go_roundw
          case rel => exact ⟨k - 1, _, by omega, by go_num, more_more _ _ _⟩
          case measure => simp [intOf]; omega
        · have t1 : decide (y < y') = false := by simpa using hyy
          clear hk0 hE hyy
          go_wp2
          refine wp_region_more (by kernel_rfl) (by kernel_rfl) ?_
          repeat (go_big_quiet_step (fail))
          refine wpQuiet_nil ?_
          rintro _ ⟨z1, rfl⟩
          have hE2 := hEz.trans ⟨z1, rfl⟩
          have p0 := more_cell2 p0 z z1
          have p1 := more_cell2 p1 z z1
          have p2 := more_cell2 p2 z z1
          have p3 := more_cell2 p3 z z1
          clear g3 hEz q3
          go_wp2
          generalize some ad = A at *
          have S := h.ext hE2
          generalize hW2 : More (More w1 z) z1 = w0 at *
          clear hW2
          refine wp_region_live (W := fun _ w' => Below w0.heap.size w0 w') (dead := fun i j => (i == 4 && j == 0) || (i == 7 && j == 0) || (i == 7 && j == 4) || (i == 7 && j == 6) || (i == 11 && j == 0) || (i == 11 && j == 4) || (i == 11 && j == 6) || (i == 11 && j == 7) || (i == 12 && j == 0) || (i == 12 && j == 4) || (i == 12 && j == 6) || (i == 12 && j == 7) || (i == 12 && j == 11))
            (Tr := fun i a b => match i with | 0 => a.grownBy b none | 6 => a.grownBy b none | 4 => (∀ (g : Nat) (cs : Array Value), a.heap[g]? = some (.cells cs 28 (0, 0)) → 0 < cs.size → b.heap[g]? = a.heap[g]?) | 7 => True | 11 => True | _ => a = b)
            (F := fun i v w' => match i with
              | 0 => ∃ g, v = .slice (some ⟨g, 0, none⟩) 0 0 ∧ w0.heap.size ≤ g ∧ w'.heap[g]? = some (.cells #[] 28 (0, 0))
              | 1 => v = .slice A n c
              | 2 => v = .int .i64 k
              | 3 => v = .slice A k c
              | 4 => w'.ownsRow w0.heap.size 28 4 v (k) (dls (xs.take k))
              | 5 => v = .agg (dlC (m, a, t, y)).toArray
              | 6 => ∃ g, v = .slice (some ⟨g, 0, none⟩) 1 1 ∧ w0.heap.size ≤ g ∧ w'.heap[g]? = some (.cells (dlC (m, a, t, y)).toArray 28 (0, 0))
              | 7 => w'.ownsRow w0.heap.size 28 4 v (k + 1) (dls (xs.take k) ++ dlC (m, a, t, y))
              | 8 => v = .slice A n c
              | 9 => v = .int .i64 k
              | 10 => v = .slice (if c = k then A else A.map (fun x => x.add (k * 4))) (n - k) (c - k)
              | 11 => w'.ownsRow w0.heap.size 28 4 v (n + 1) (dls (xs.take k ++ (m, a, t, y) :: xs.drop k))
              | 12 => w'.ownsRow w0.heap.size 28 4 v (n + 1) (dls (xs.take k ++ (m, a, t, y) :: xs.drop k))
              | _ => True) (by kernel_rfl) (by kernel_rfl) (by kernel_rfl) ?_ ?_ ?_ ?_
          · exact ⟨rfl, rfl, rfl, Nat.le_refl _, fun _ _ => rfl⟩
          · intro i j kk a b v hi hj hne hdd haa hW hT hF
            match i, j with
            | 0, 0 => exact absurd rfl hne
            | 1, 0 => have hT' : a = b := hT; subst hT'; exact hF
            | 2, 0 => have hT' : a = b := hT; subst hT'; exact hF
            | 3, 0 => have hT' : a = b := hT; subst hT'; exact hF
            | 4, 0 => exact absurd hdd (by decide)
            | 5, 0 => have hT' : a = b := hT; subst hT'; exact hF
            | 6, 0 => obtain ⟨g, h1, h2, h3⟩ := hF; exact ⟨g, h1, h2, (hT.block g (Array.getElem?_eq_some_iff.1 h3).1 (by simp)).trans h3⟩
            | 7, 0 => exact absurd hdd (by decide)
            | 8, 0 => have hT' : a = b := hT; subst hT'; exact hF
            | 9, 0 => have hT' : a = b := hT; subst hT'; exact hF
            | 10, 0 => have hT' : a = b := hT; subst hT'; exact hF
            | 11, 0 => exact absurd hdd (by decide)
            | 12, 0 => exact absurd hdd (by decide)
            | _ + 13, 0 => simp at hi; omega
            | _, 1 => exact hF
            | _, 2 => exact hF
            | _, 3 => exact hF
            | 0, 4 => exact absurd (haa.symm.trans (show ancB _ _ _ _ = true by kernel_rfl)) (by decide)
            | 1, 4 => exact absurd (haa.symm.trans (show ancB _ _ _ _ = true by kernel_rfl)) (by decide)
            | 2, 4 => exact absurd (haa.symm.trans (show ancB _ _ _ _ = true by kernel_rfl)) (by decide)
            | 3, 4 => exact absurd (haa.symm.trans (show ancB _ _ _ _ = true by kernel_rfl)) (by decide)
            | 4, 4 => exact absurd rfl hne
            | 5, 4 => have hT' : a = b := hT; subst hT'; exact hF
            | 6, 4 => exact World.ownsRow.kept hF hT (by cases hv : v.ownBlock <;> simp)
            | 7, 4 => exact absurd hdd (by decide)
            | 8, 4 => have hT' : a = b := hT; subst hT'; exact hF
            | 9, 4 => have hT' : a = b := hT; subst hT'; exact hF
            | 10, 4 => have hT' : a = b := hT; subst hT'; exact hF
            | 11, 4 => exact absurd hdd (by decide)
            | 12, 4 => exact absurd hdd (by decide)
            | _ + 13, 4 => simp at hi; omega
            | _, 5 => exact hF
            | 0, 6 => obtain ⟨g, h1, h2, h3⟩ := hF; exact ⟨g, h1, h2, (hT.block g (Array.getElem?_eq_some_iff.1 h3).1 (by simp)).trans h3⟩
            | 1, 6 => have hT' : a = b := hT; subst hT'; exact hF
            | 2, 6 => have hT' : a = b := hT; subst hT'; exact hF
            | 3, 6 => have hT' : a = b := hT; subst hT'; exact hF
            | 4, 6 => obtain ⟨g, h1, h2, h3⟩ := hF; exact ⟨g, h1, h2, (hT g _ h3 (by simp [dlC])).trans h3⟩
            | 5, 6 => exact absurd (haa.symm.trans (show ancB _ _ _ _ = true by kernel_rfl)) (by decide)
            | 6, 6 => exact absurd rfl hne
            | 7, 6 => exact absurd hdd (by decide)
            | 8, 6 => have hT' : a = b := hT; subst hT'; exact hF
            | 9, 6 => have hT' : a = b := hT; subst hT'; exact hF
            | 10, 6 => have hT' : a = b := hT; subst hT'; exact hF
            | 11, 6 => exact absurd hdd (by decide)
            | 12, 6 => exact absurd hdd (by decide)
            | _ + 13, 6 => simp at hi; omega
            | 0, 7 => exact absurd (haa.symm.trans (show ancB _ _ _ _ = true by kernel_rfl)) (by decide)
            | 1, 7 => exact absurd (haa.symm.trans (show ancB _ _ _ _ = true by kernel_rfl)) (by decide)
            | 2, 7 => exact absurd (haa.symm.trans (show ancB _ _ _ _ = true by kernel_rfl)) (by decide)
            | 3, 7 => exact absurd (haa.symm.trans (show ancB _ _ _ _ = true by kernel_rfl)) (by decide)
            | 4, 7 => exact absurd (haa.symm.trans (show ancB _ _ _ _ = true by kernel_rfl)) (by decide)
            | 5, 7 => exact absurd (haa.symm.trans (show ancB _ _ _ _ = true by kernel_rfl)) (by decide)
            | 6, 7 => exact absurd (haa.symm.trans (show ancB _ _ _ _ = true by kernel_rfl)) (by decide)
            | 7, 7 => exact absurd rfl hne
            | 8, 7 => have hT' : a = b := hT; subst hT'; exact hF
            | 9, 7 => have hT' : a = b := hT; subst hT'; exact hF
            | 10, 7 => have hT' : a = b := hT; subst hT'; exact hF
            | 11, 7 => exact absurd hdd (by decide)
            | 12, 7 => exact absurd hdd (by decide)
            | _ + 13, 7 => simp at hi; omega
            | _, 8 => exact hF
            | _, 9 => exact hF
            | _, 10 => exact hF
            | 0, 11 => exact absurd (haa.symm.trans (show ancB _ _ _ _ = true by kernel_rfl)) (by decide)
            | 1, 11 => exact absurd (haa.symm.trans (show ancB _ _ _ _ = true by kernel_rfl)) (by decide)
            | 2, 11 => exact absurd (haa.symm.trans (show ancB _ _ _ _ = true by kernel_rfl)) (by decide)
            | 3, 11 => exact absurd (haa.symm.trans (show ancB _ _ _ _ = true by kernel_rfl)) (by decide)
            | 4, 11 => exact absurd (haa.symm.trans (show ancB _ _ _ _ = true by kernel_rfl)) (by decide)
            | 5, 11 => exact absurd (haa.symm.trans (show ancB _ _ _ _ = true by kernel_rfl)) (by decide)
            | 6, 11 => exact absurd (haa.symm.trans (show ancB _ _ _ _ = true by kernel_rfl)) (by decide)
            | 7, 11 => exact absurd (haa.symm.trans (show ancB _ _ _ _ = true by kernel_rfl)) (by decide)
            | 8, 11 => exact absurd (haa.symm.trans (show ancB _ _ _ _ = true by kernel_rfl)) (by decide)
            | 9, 11 => exact absurd (haa.symm.trans (show ancB _ _ _ _ = true by kernel_rfl)) (by decide)
            | 10, 11 => exact absurd (haa.symm.trans (show ancB _ _ _ _ = true by kernel_rfl)) (by decide)
            | 11, 11 => exact absurd rfl hne
            | 12, 11 => exact absurd hdd (by decide)
            | _ + 13, 11 => simp at hi; omega
            | 0, 12 => exact absurd (haa.symm.trans (show ancB _ _ _ _ = true by kernel_rfl)) (by decide)
            | 1, 12 => exact absurd (haa.symm.trans (show ancB _ _ _ _ = true by kernel_rfl)) (by decide)
            | 2, 12 => exact absurd (haa.symm.trans (show ancB _ _ _ _ = true by kernel_rfl)) (by decide)
            | 3, 12 => exact absurd (haa.symm.trans (show ancB _ _ _ _ = true by kernel_rfl)) (by decide)
            | 4, 12 => exact absurd (haa.symm.trans (show ancB _ _ _ _ = true by kernel_rfl)) (by decide)
            | 5, 12 => exact absurd (haa.symm.trans (show ancB _ _ _ _ = true by kernel_rfl)) (by decide)
            | 6, 12 => exact absurd (haa.symm.trans (show ancB _ _ _ _ = true by kernel_rfl)) (by decide)
            | 7, 12 => exact absurd (haa.symm.trans (show ancB _ _ _ _ = true by kernel_rfl)) (by decide)
            | 8, 12 => exact absurd (haa.symm.trans (show ancB _ _ _ _ = true by kernel_rfl)) (by decide)
            | 9, 12 => exact absurd (haa.symm.trans (show ancB _ _ _ _ = true by kernel_rfl)) (by decide)
            | 10, 12 => exact absurd (haa.symm.trans (show ancB _ _ _ _ = true by kernel_rfl)) (by decide)
            | 11, 12 => exact absurd (haa.symm.trans (show ancB _ _ _ _ = true by kernel_rfl)) (by decide)
            | 12, 12 => exact absurd rfl hne
            | _ + 13, 12 => simp at hi; omega
            | _, _ + 13 => simp at hj; omega
          · refine ⟨fun kk ρ u hkk hc hf hb hW hd => ?_, ?_⟩
            · have hz := hW.size
              exact yield_value (w' := u.alloc (.cells #[] 28)) (.slice (some ⟨u.heap.size, 0, none⟩) 0 0) (by simp [go_sem, hc]) ⟨⟨_, rfl, hz, alloc_new' rfl⟩, hW.alloc hz _, World.grownBy_alloc _ _ _⟩
            refine ⟨fun kk ρ u hkk hc hf hb hW hd => ?_, ?_⟩
            · exact yield_move _ rfl ⟨hb 0 (by kernel_rfl), hW, rfl⟩
            refine ⟨fun kk ρ u hkk hc hf hb hW hd => ?_, ?_⟩
            · exact yield_move _ rfl ⟨hb 6 (by kernel_rfl), hW, rfl⟩
            refine ⟨fun kk ρ u hkk hc hf hb hW hd => ?_, ?_⟩
            · have e1 : ρ (.tmp 30) = .slice A n c := hd.1 rfl rfl
              have e2 : ρ (.tmp 31) = .int .i64 k := hd.2.1 rfl rfl
              clear hd hb
              have hkc : (k : Int) ≤ (c : Int) := by omega
              exact yield_value (w' := u) (.slice A k c) (by simp [go_sem, hc, hf, e1, e2, hkc]) ⟨rfl, hW, rfl⟩
            refine ⟨fun kk ρ u hkk hc hf hb hW hd => ?_, ?_⟩
            · obtain ⟨g, e1, hgB, hgc⟩ : ∃ g, ρ (.tmp 29) = .slice (some ⟨g, 0, none⟩) 0 0 ∧ w0.heap.size ≤ g ∧ u.heap[g]? = some (.cells #[] 28 (0, 0)) := hd.1 rfl rfl
              have e2 : ρ (.tmp 32) = .slice A k c := hd.2.1 rfl rfl
              clear hd hb
              have s1 := (S.sub0 (m := k) hkn).below hW
              rw [flat_take dlC_len] at s1
              refine yield_append (.tmp 29) (.tmp 32) eltDelivery rfl w0.heap.size _ 0 [] e1 (own_lit0 hgB hgc) A k c (dls (xs.take k)) e2 s1.see (s1.of_none (by decide)) s1.len (flat_one dlC_one _) (by unfold maxLen; omega) (by omega) hW.size ?_
              intro v' w' O G _
              rw [Nat.zero_add, List.nil_append] at O
              refine ⟨O, hW.grown G hW.size (fun q hq => by simp [Value.ownBlock] at hq; omega), fun g' cs hg' hcs => G.block g' (Array.getElem?_eq_some_iff.1 hg').1 (fun e => ?_)⟩
              simp [Value.ownBlock] at e
              subst e
              rw [hgc] at hg'
              injection hg' with hg'
              injection hg' with hg'
              subst hg'
              simp at hcs
            refine ⟨fun kk ρ u hkk hc hf hb hW hd => ?_, ?_⟩
            · have e1 : ρ (.tmp 3) = .pointer (some ⟨w.heap.size, 0, none⟩) := hb 3 (by kernel_rfl)
              clear hd hb
              have x0 := (hW.cell (World.block_lt_of_cell? _ _ p0)).trans p0
              have x1 := (hW.cell (World.block_lt_of_cell? _ _ p1)).trans p1
              have x2 := (hW.cell (World.block_lt_of_cell? _ _ p2)).trans p2
              have x3 := (hW.cell (World.block_lt_of_cell? _ _ p3)).trans p3
              exact yield_value (w' := u) (.agg (dlC (m, a, t, y)).toArray) (by simp [go_sem, hc, hf, e1, x0, x1, x2, x3]) ⟨rfl, hW, rfl⟩
            refine ⟨fun kk ρ u hkk hc hf hb hW hd => ?_, ?_⟩
            · have e1 : ρ (.tmp 34) = .agg (dlC (m, a, t, y)).toArray := hd.1 rfl rfl
              clear hd hb
              have hz := hW.size
              exact yield_value (w' := u.alloc (.cells (dlC (m, a, t, y)).toArray 28)) (.slice (some ⟨u.heap.size, 0, none⟩) 1 1) (by simp [go_sem, hc, hf, e1]) ⟨⟨_, rfl, hz, alloc_new' rfl⟩, hW.alloc hz _, World.grownBy_alloc _ _ _⟩
            refine ⟨fun kk ρ u hkk hc hf hb hW hd => ?_, ?_⟩
            · have O1 : u.ownsRow w0.heap.size 28 4 (ρ (.tmp 33)) k (dls (xs.take k)) := hd.1 rfl rfl
              obtain ⟨g, e2, hgB, hgc⟩ : ∃ g, ρ (.tmp 35) = .slice (some ⟨g, 0, none⟩) 1 1 ∧ w0.heap.size ≤ g ∧ u.heap[g]? = some (.cells (dlC (m, a, t, y)).toArray 28 (0, 0)) := hd.2.1 rfl rfl
              clear hd hb
              refine yield_append (.tmp 33) (.tmp 35) eltDelivery rfl w0.heap.size _ k _ rfl O1 (some ⟨g, 0, none⟩) 1 1 (dlC (m, a, t, y)) e2 (see_lit hgc) (by simp) rfl (dlC_one _) (by unfold maxLen; omega) (by omega) hW.size ?_
              intro v' w' O G _
              exact ⟨O, hW.grown G hW.size (fun q hq => (O1.lt q hq).1), trivial⟩
            refine ⟨fun kk ρ u hkk hc hf hb hW hd => ?_, ?_⟩
            · exact yield_move _ rfl ⟨hb 0 (by kernel_rfl), hW, rfl⟩
            refine ⟨fun kk ρ u hkk hc hf hb hW hd => ?_, ?_⟩
            · exact yield_move _ rfl ⟨hb 6 (by kernel_rfl), hW, rfl⟩
            refine ⟨fun kk ρ u hkk hc hf hb hW hd => ?_, ?_⟩
            · have e1 : ρ (.tmp 37) = .slice A n c := hd.1 rfl rfl
              have e2 : ρ (.tmp 38) = .int .i64 k := hd.2.1 rfl rfl
              clear hd hb
              have hkn' : (k : Int) ≤ (n : Int) := by omega
              exact yield_value (w' := u) (.slice (if c = k then A else A.map (fun x => x.add (k * 4))) (n - k) (c - k)) (by simp [go_sem, hc, hf, e1, e2, hkn']) ⟨rfl, hW, rfl⟩
            refine ⟨fun kk ρ u hkk hc hf hb hW hd => ?_, ?_⟩
            · have O1 : u.ownsRow w0.heap.size 28 4 (ρ (.tmp 36)) (k + 1) (dls (xs.take k) ++ dlC (m, a, t, y)) := hd.1 rfl rfl
              have e2 : ρ (.tmp 39) = .slice (if c = k then A else A.map (fun x => x.add (k * 4))) (n - k) (c - k) := hd.2.1 rfl rfl
              clear hd hb
              have s2 := (S.cut (k := k) (K := k * 4) hkn rfl).below hW
              rw [flat_drop dlC_len] at s2
              refine yield_append (.tmp 36) (.tmp 39) eltDelivery rfl w0.heap.size _ (k + 1) _ rfl O1 _ _ _ (dls (xs.drop k)) e2 s2.see (s2.of_none (by decide)) s2.len (flat_one dlC_one _) (by unfold maxLen; omega) (by omega) hW.size ?_
              intro v' w' O G _
              rw [show k + 1 + (n - k) = n + 1 by omega, show dls (xs.take k) ++ dlC (m, a, t, y) ++ dls (xs.drop k) = dls (xs.take k ++ (m, a, t, y) :: xs.drop k) by simp [flat]] at O
              exact ⟨O, hW.grown G hW.size (fun q hq => (O1.lt q hq).1), trivial⟩
            refine ⟨fun kk ρ u hkk hc hf hb hW hd => ?_, ?_⟩
            · exact yield_assign _ rfl ⟨hd.1 rfl rfl, hW, rfl⟩
            trivial
          intro env w2 B2 hF
          have O : w2.ownsRow w0.heap.size 28 4 (env 12) (n + 1) (dls (xs.take k ++ (m, a, t, y) :: xs.drop k)) := hF 12 (of_decide_eq_true (by kernel_rfl)) (fun i hi => by match i with | 0 | 1 | 2 | 3 | 4 | 5 | 6 | 7 | 8 | 9 | 10 | 11 | 12 => rfl | _ + 13 => simp at hi; omega)
          clear hF
          have hr : List.range 48 = [0, 1, 2, 3, 4, 5, 6, 7, 8, 9, 10, 11, 12, 13, 14, 15, 16, 17, 18, 19, 20, 21, 22, 23, 24, 25, 26, 27, 28, 29, 30, 31, 32, 33, 34, 35, 36, 37, 38, 39, 40, 41, 42, 43, 44, 45, 46, 47] := rfl
          unfold after
          simp only [List.size_toArray, List.length_cons, List.length_nil, Nat.reduceAdd, hr, List.map_cons, List.map_nil]
          simp [idxOf, List.findIdx?, List.findIdx?.go]
          clear hr
          obtain ⟨B, d, hv, _⟩ := own_form O
          rw [hv] at O ⊢
          have T3 := below_next hE2.below B2
          have o3 := own_lower O hE2.size
          clear O B2 hv p0 p1 p2 p3
          have HO := hid (dlOk_ins (x := (m, a, t, y)) HOK.out HA.out k)
          generalize xs.take k ++ (m, a, t, y) :: xs.drop k = zs at *
          have C2 := fun W (hW : Sl W B (n + 1) d 4 (dls zs)) => dlS_any B (n + 1) d zs W hW HO.out
          clear hE2 S
          cases hm : dlV zs with
          | false =>
            rw [hm] at C2
            clear hm
            go_wp2_with fail
            refine (C2 _ (own_sl o3)).mono ?_
            rintro e w4 ⟨rfl, x4⟩
            have T4 := below_next T3 x4.below
            clear T3 x4 o3 C2
            have s4 := (h.below T4)
            go_wp2_with (at_builtin; refine wpList_append_see _ rfl (.tmp 44) (.tmp 45) eltDelivery rfl w4.heap.size (.slice (some ⟨w4.heap.size, 0, none⟩) 0 0) 0 [] rfl (own_empty w4 28 4) A n c (dls xs) rfl (s4.see.alloc _) (s4.of_none (by decide)) s4.len (flat_one dlC_one _) (by unfold maxLen; omega) (by omega) (by simp) ?_; intro v5 w5 o5 g5 a5)
            rw [Nat.zero_add, List.nil_append] at o5
            have b5 : Below w4.heap.size w4 w5 := ((Below.refl _ _).alloc (Nat.le_refl _) _).grown g5 (by simp) (by rintro k' hk'; simp [Value.ownBlock] at hk'; omega)
            obtain ⟨B5, d5, rfl, _⟩ := own_form o5
            clear g5 a5 s4
            go_wp2
            go_ret2
            exact ⟨B5, _, d5, xs, false, rfl, own_lower o5 T4.size, HOK.out, by omega, below_next T4 b5⟩
          | true =>
            rw [hm] at C2
            clear hm
            go_wp2_with fail
            refine (C2 _ (own_sl o3)).mono ?_
            rintro e w4 ⟨rfl, x4⟩
            go_wp2
            go_ret2
            exact ⟨B, _, d, zs, true, rfl, own_ext o3 x4, HO.out, by omega, below_next T3 x4.below⟩
theorem more_alloc_more (w : World) (z : Ext) (o : Obj) : (More w z).alloc o = More w ⟨z.os ++ [o], z.n⟩ := by rw [more_alloc (More w z) o, more_more]; rfl
set_option maxHeartbeats 1000000 in
theorem dueI_any (A : Option Addr) (n c : Nat) (xs : List Dl) (now : Int) (w : World) (h : Sl w A n c 4 (dls xs)) (hok : dlOk xs) :
    Calls Try.prog 14 #[.slice A n c, .int .i64 now] w fun e w' => e = .returned (.int .i64 (dueF xs now)) ∧ Ext.of w w' := by
  have hlx : xs.length = n := h.count dlC_len (by omega)
  have hmx := h.max
  have hcx := h.cap
  unfold maxLen at hmx
  have C := fun W (hW : Sl W A n c 4 (dls xs)) => dlI_any A n c xs W hW hok
  cases hv : dlV xs with
  | false =>
    have R := hid (due_no (now := now) hv)
    rw [hv] at C
    clear hv hok hlx
    go_enter Try.func14, Try.ntmps14
    go_wp2_with fail
    refine (C _ h).mono ?_
    rintro e w1 ⟨rfl, x1⟩
    go_wp2
    go_ret
    exact ⟨ret_i64 R.out.symm, x1⟩
  | true =>
    have hn := (dlV_len hv).1
    rw [hlx] at hn
    have R := hid (due_yes (now := now) hv)
    have HL := hid hlx
    rw [hv] at C
    clear hv hok hlx
    go_enter Try.func14, Try.ntmps14
    go_wp2_with fail
    refine (C _ h).mono ?_
    rintro e w1 ⟨rfl, x1⟩
    clear C
    go_wp2
    go_loopw [5, 13] (fun q i wr => ∃ (k j : Nat) (z : Ext), k ≤ n ∧ i = .int .i64 k ∧ q = .int .i64 j ∧ wr = More w1 z ∧ Hid (dueN (xs.take k) now = j)) (fun _ i _ => n - (intOf i).toNat)
    case atStart => exact ⟨0, 0, _, Nat.zero_le _, rfl, rfl, more_refl w1, rfl⟩
    case round =>
      obtain ⟨k, j, z, hk, rfl, rfl, rfl, hto⟩ := hrel
      have hE : Ext.of w (More w1 z) := x1.trans ⟨z, rfl⟩
      have hj : j ≤ 10 := by have h1 := dueN_le (xs.take k) now; have h2 := hto.out; rw [List.length_take] at h1; omega
      by_cases hlt : k < n
      · obtain ⟨ad, m, a, t, y, rfl, hab, c0, c1, c2, c3⟩ := (h.ext hE).dl hlt
        by_cases hyy : y ≤ now
        · have N := hid (show dueN (xs.take (k + 1)) now = j + 1 by rw [dueN_next now hab, hto.out, if_pos hyy])
          clear hab hto
          go_wp2
          go_roundw
          case rel => exact ⟨k + 1, j + 1, _, by omega, by go_num, by go_num, more_alloc_more _ _ _, N⟩
          case measure => simp [intOf]; omega
        · have N := hid (show dueN (xs.take (k + 1)) now = j by rw [dueN_next now hab, hto.out, if_neg hyy]; rfl)
          clear hab hto
          go_wp2
          go_roundw
          case rel => exact ⟨k + 1, j, _, by omega, by go_num, rfl, more_alloc_more _ _ _, N⟩
          case measure => simp [intOf]; omega
      · obtain rfl : k = n := by omega
        have N := hid (show dueF xs now = j by rw [R.out, ← hto.out, ← HL.out, List.take_length])
        clear hto
        go_wp2
        go_ret
        exact ⟨ret_i64 N.out.symm, hE⟩
set_option maxHeartbeats 1000000 in
theorem dueS_any (A : Option Addr) (n c : Nat) (xs : List Dl) (now : Int) (w : World) (h : Sl w A n c 4 (dls xs)) (hok : dlOk xs) :
    Calls Try.prog 15 #[.slice A n c, .int .i64 now] w fun e w' => e = .returned (.int .i64 (dueF xs now)) ∧ Ext.of w w' := by
  have hlx : xs.length = n := h.count dlC_len (by omega)
  have hmx := h.max
  have hcx := h.cap
  unfold maxLen at hmx
  have C := fun W (hW : Sl W A n c 4 (dls xs)) => dlS_any A n c xs W hW hok
  cases hv : dlV xs with
  | false =>
    have R := hid (due_no (now := now) hv)
    rw [hv] at C
    clear hv hok hlx
    go_enter Try.func15, Try.ntmps15
    go_wp2_with fail
    refine (C _ h).mono ?_
    rintro e w1 ⟨rfl, x1⟩
    go_wp2
    go_ret
    exact ⟨ret_i64 R.out.symm, x1⟩
  | true =>
    have hn := (dlV_len hv).1
    rw [hlx] at hn
    have R := hid (due_yes (now := now) hv)
    have HL := hid hlx
    rw [hv] at C
    clear hv hok hlx
    go_enter Try.func15, Try.ntmps15
    go_wp2_with fail
    refine (C _ h).mono ?_
    rintro e w1 ⟨rfl, x1⟩
    clear C
    go_wp2
    go_loopw [5, 6] (fun q i wr => ∃ (k j : Nat) (z : Ext), k ≤ n ∧ i = .int .i64 k ∧ q = .int .i64 j ∧ wr = More w1 z ∧ Hid (dueN (xs.take k) now = j)) (fun _ i _ => n - (intOf i).toNat)
    case atStart => exact ⟨0, 0, _, Nat.zero_le _, rfl, rfl, more_refl w1, rfl⟩
    case round =>
      obtain ⟨k, j, z, hk, rfl, rfl, rfl, hto⟩ := hrel
      have hE : Ext.of w (More w1 z) := x1.trans ⟨z, rfl⟩
      have hj : j ≤ 10 := by have h1 := dueN_le (xs.take k) now; have h2 := hto.out; rw [List.length_take] at h1; omega
      by_cases hlt : k < n
      · obtain ⟨ad, m, a, t, y, rfl, hab, c0, c1, c2, c3⟩ := (h.ext hE).dl hlt
        by_cases hyy : y ≤ now
        · have N := hid (show dueN (xs.take (k + 1)) now = j + 1 by rw [dueN_next now hab, hto.out, if_pos hyy])
          clear hab hto
          go_wp2
          go_roundw
          case rel => exact ⟨k + 1, j + 1, _, by omega, by go_num, by go_num, rfl, N⟩
          case measure => simp [intOf]; omega
        · have N := hid (show dueN (xs.take (k + 1)) now = j by rw [dueN_next now hab, hto.out, if_neg hyy]; rfl)
          clear hab hto
          go_wp2
          go_roundw
          case rel => exact ⟨k + 1, j, _, by omega, by go_num, rfl, rfl, N⟩
          case measure => simp [intOf]; omega
      · obtain rfl : k = n := by omega
        have N := hid (show dueF xs now = j by rw [R.out, ← hto.out, ← HL.out, List.take_length])
        clear hto
        go_wp2
        go_ret
        exact ⟨ret_i64 N.out.symm, hE⟩
end Go.Proofs.Ytbnoonaefcogdaa
