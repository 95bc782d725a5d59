/- The contracts of the reference's Follow and Unfollow. -/
import Derived.Test.YtoagpfdhbcgdcaaDoorFollowing
import Derived.Test.YtoagpfdhbcgdcaaDoorG3
namespace Go.Proofs.YtoagpfdhbcgdcaaDoor
open Go.RowKit
set_option linter.unusedVariables false
set_option maxRecDepth 8000
set_option linter.unusedSimpArgs false
set_option maxHeartbeats 2000000 in
theorem followS_any (A : Option Addr) (n c : Nat) (xs : List Hd) (p q : ByteArray) (w : World) (h : Sl w A n c 2 (hds xs)) (hok : hdOk xs) (hp : p.size ≤ 9223372036854775807) (hq : q.size ≤ 9223372036854775807) :
    Calls Tryd.prog 43 #[.slice A n c, hdA p q] w fun e w' => ∃ B k d, e = .returned (.tuple #[.slice B k d, .bool (followV xs (p, q)).2]) ∧ w'.ownsRow w.heap.size 28 2 (.slice B k d) k (hds (followV xs (p, q)).1) ∧ Below w.heap.size w w' := by
  have hlx : xs.length = n := h.count hdC_len (by omega)
  have hmx := h.max
  have hcx := h.cap
  unfold maxLen at hmx
  cases hv : folV xs with
  | false =>
    have R := hid (follow_no (x := (p, q)) hv)
    have C := fun W (hW : Sl W A n c 2 (hds xs)) => folS_any A n c xs W hW hok
    rw [hv] at C
    clear hv hok hlx
    go_enter Tryd.func43, Tryd.ntmps43
    go_wp2_with fail
    refine (C _ (h.alloc _)).mono ?_
    rintro e w1 ⟨rfl, x1⟩
    go_wp2
    go_ret2
    have T1 := (((Ext.of.refl w).alloc (Obj.cells #[Value.string p, Value.string q] 28)).trans x1).below
    exact ⟨_, _, _, ret_sb rfl (by rw [R.out]), by rw [R.out]; exact own_lower (own_empty w1 28 2) T1.size, T1.alloc T1.size _⟩
  | true =>
    have hV := folV_iff.1 hv
    have hn := hV.1
    rw [hlx] at hn
    have C := fun W (hW : Sl W A n c 2 (hds xs)) => folS_any A n c xs W hW hok
    rw [hv] at C
    have HV := hid hv
    have HO := hid (insL_ok hok hp hq)
    have HL := hid hlx
    clear hv hok hlx hV
    go_enter Tryd.func43, Tryd.ntmps43
    go_wp2_with fail
    refine (C _ (h.alloc _)).mono ?_
    rintro e w1 ⟨rfl, x1⟩
    have hE : Ext.of w w1 := ((Ext.of.refl _).alloc _).trans x1
    have hc : w1.heap[w.heap.size]? = some (.cells #[Value.string p, Value.string q] 28 (0, 0)) := (x1.block (by simp)).trans (alloc_new' rfl)
    have p0 : w1.cell? ⟨w.heap.size, 0, none⟩ = some (.string p) := cell_of_row w1 w.heap.size 0 _ _ _ hc
    have p1 : w1.cell? ⟨w.heap.size, 1, none⟩ = some (.string q) := cell_of_row w1 w.heap.size 1 _ _ _ hc
    clear x1 hc C
    go_wp2
    go_loopw [6] (fun i wr => ∃ (k : Nat) (y : Ext), k ≤ n ∧ i = .int .i64 k ∧ wr = More w1 y ∧ Hid (∀ j z, j < k → xs[j]? = some z → bef z (p, q) = true)) (fun i _ => n - (intOf i).toNat)
    case atStart => exact ⟨0, _, Nat.zero_le _, rfl, more_refl w1, fun j z hj => by omega⟩
    case round =>
      obtain ⟨k, y, hk, rfl, rfl, hto⟩ := hrel
      have g0 := more_cell2 p0 y
      have g1 := more_cell2 p1 y
      have hEy : Ext.of w (More w1 y) := hE.trans ⟨y, rfl⟩
      by_cases hgo : ∃ a b, xs[k]? = some (a, b) ∧ bef (a, b) (p, q) = true
      · obtain ⟨a, b, hab, hb⟩ := hgo
        have hlt : k < n := by have := (List.getElem?_eq_some_iff.1 hab).1; rwa [HL.out] at this
        obtain ⟨ad, a', b', rfl, hab', c0, c1⟩ := (h.ext hEy).hd hlt
        rw [hab] at hab'
        simp only [Option.some.injEq, Prod.mk.injEq] at hab'
        obtain ⟨rfl, rfl⟩ := hab'
        have e0 := more_cell c0
        have e1 := more_cell c1
        have R := hid (show ∀ j z, j < k + 1 → xs[j]? = some z → bef z (p, q) = true from fun j z hj hz => by
          by_cases ej : j = k
          · subst ej; rw [hab] at hz; injection hz with hz; subst hz; exact hb
          · exact hto.out j z (by omega) hz)
        have Cb := fun W => hbefS_any a b p q W
        have hb' : hbefV a b p q = true := hb
        rw [hb'] at Cb
        clear c0 c1 hab hb hb' hto p0 p1 hEy
        go_wp2
        refine wp_region_more (by kernel_rfl) (by kernel_rfl) ?_
        repeat (go_big_quiet_step (exact more_of (Cb _)))
        refine wpQuiet_nil ?_
        rintro _ ⟨z, rfl⟩
        go_wp2
        go_roundw
        case rel => exact ⟨k + 1, _, by omega, by go_num, more_more _ _ _, R⟩
        case measure => simp [intOf]; omega
      · have N := hid (ins_at (x := (p, q)) (fun j z hj hz => hto.out j z hj hz) (by rw [HL.out]; exact hk) (fun z hz => by
          rw [Bool.eq_false_iff]; intro e; exact hgo ⟨z.1, z.2, hz, e⟩))
        have hgo' : k < n → ∃ ad a b, A = some ad ∧ hbefV a b p q = false ∧ (∀ x, (More (More w1 y) x).cell? (ad.add (k * 2)) = some (.string a)) ∧ ∀ x, (More (More w1 y) x).cell? ⟨(ad.add (k * 2)).block, (ad.add (k * 2)).off + 1, none⟩ = some (.string b) := fun hlt => by
          obtain ⟨ad, a, b, hA, hab, c0, c1⟩ := (h.ext hEy).hd hlt
          exact ⟨ad, a, b, hA, by rw [Bool.eq_false_iff]; exact fun e => hgo ⟨a, b, hab, e⟩, more_cell c0, more_cell c1⟩
        clear hgo hto
        by_cases hlt : k < n
        obtain ⟨ad, a, b, rfl, hb, e0, e1⟩ := hgo' hlt
        have Cb := fun W => hbefS_any a b p q W
        rw [hb] at Cb
        clear hb
        rotate_left
        have Cb : True := trivial
        all_goals
          clear hgo'
          go_wp2
          refine wp_region_more (by kernel_rfl) (by kernel_rfl) ?_
          repeat (go_big_quiet_step (exact more_of (Cb _)))
          refine wpQuiet_nil ?_
          rintro _ ⟨z, rfl⟩
          have hE2 := hEy.trans ⟨z, rfl⟩
          have q0 := g0 z
          have q1 := g1 z
          clear g0 g1 p0 p1 hEy Cb hE
          go_wp2
          have S := h.ext hE2
          have hkn := hk
          try clear e0 e1
          generalize hW2 : More (More w1 y) z = w0 at *
          clear hW2
          have p0 := q0
          have p1 := q1
          clear q0 q1
          try generalize some ad = A at *
          refine wp_region_live (W := fun _ w' => Below w0.heap.size w0 w') (dead := fun i j => (i == 4 && j == 0) || (i == 7 && j == 0) || (i == 7 && j == 4) || (i == 7 && j == 6) || (i == 11 && j == 0) || (i == 11 && j == 4) || (i == 11 && j == 6) || (i == 11 && j == 7) || (i == 12 && j == 0) || (i == 12 && j == 4) || (i == 12 && j == 6) || (i == 12 && j == 7) || (i == 12 && j == 11))
            (Tr := fun i a b => match i with | 0 => a.grownBy b none | 6 => a.grownBy b none | 4 => (∀ (g : Nat) (cs : Array Value), a.heap[g]? = some (.cells cs 28 (0, 0)) → 0 < cs.size → b.heap[g]? = a.heap[g]?) | 7 => True | 11 => True | _ => a = b)
            (F := fun i v w' => match i with
              | 0 => ∃ g, v = .slice (some ⟨g, 0, none⟩) 0 0 ∧ w0.heap.size ≤ g ∧ w'.heap[g]? = some (.cells #[] 28 (0, 0))
              | 1 => v = .slice A n c
              | 2 => v = .int .i64 k
              | 3 => v = .slice A k c
              | 4 => w'.ownsRow w0.heap.size 28 2 v (k) (hds (xs.take k))
              | 5 => v = .agg (hdC (p, q)).toArray
              | 6 => ∃ g, v = .slice (some ⟨g, 0, none⟩) 1 1 ∧ w0.heap.size ≤ g ∧ w'.heap[g]? = some (.cells (hdC (p, q)).toArray 28 (0, 0))
              | 7 => w'.ownsRow w0.heap.size 28 2 v (k + 1) (hds (xs.take k) ++ hdC (p, q))
              | 8 => v = .slice A n c
              | 9 => v = .int .i64 k
              | 10 => v = .slice (if c = k then A else A.map (fun x => x.add (k * 2))) (n - k) (c - k)
              | 11 => w'.ownsRow w0.heap.size 28 2 v (n + 1) (hds (xs.take k ++ (p, q) :: xs.drop k))
              | 12 => w'.ownsRow w0.heap.size 28 2 v (n + 1) (hds (xs.take k ++ (p, q) :: xs.drop k))
              | _ => True) (by kernel_rfl) (by kernel_rfl) (by kernel_rfl) ?_ ?_ ?_ ?_
          · exact ⟨rfl, rfl, rfl, Nat.le_refl _, fun _ _ => rfl⟩
          · intro i j kk a b v hi hj hne hdd haa hW hT hF
            match i, j with
            | 0, 0 => exact absurd rfl hne
            | 1, 0 => have hT' : a = b := hT; subst hT'; exact hF
            | 2, 0 => have hT' : a = b := hT; subst hT'; exact hF
            | 3, 0 => have hT' : a = b := hT; subst hT'; exact hF
            | 4, 0 => exact absurd hdd (by decide)
            | 5, 0 => have hT' : a = b := hT; subst hT'; exact hF
            | 6, 0 => obtain ⟨g, h1, h2, h3⟩ := hF; exact ⟨g, h1, h2, (hT.block g (Array.getElem?_eq_some_iff.1 h3).1 (by simp)).trans h3⟩
            | 7, 0 => exact absurd hdd (by decide)
            | 8, 0 => have hT' : a = b := hT; subst hT'; exact hF
            | 9, 0 => have hT' : a = b := hT; subst hT'; exact hF
            | 10, 0 => have hT' : a = b := hT; subst hT'; exact hF
            | 11, 0 => exact absurd hdd (by decide)
            | 12, 0 => exact absurd hdd (by decide)
            | _ + 13, 0 => simp at hi; omega
            | _, 1 => exact hF
            | _, 2 => exact hF
            | _, 3 => exact hF
            | 0, 4 => exact absurd (haa.symm.trans (show ancB _ _ _ _ = true by kernel_rfl)) (by decide)
            | 1, 4 => exact absurd (haa.symm.trans (show ancB _ _ _ _ = true by kernel_rfl)) (by decide)
            | 2, 4 => exact absurd (haa.symm.trans (show ancB _ _ _ _ = true by kernel_rfl)) (by decide)
            | 3, 4 => exact absurd (haa.symm.trans (show ancB _ _ _ _ = true by kernel_rfl)) (by decide)
            | 4, 4 => exact absurd rfl hne
            | 5, 4 => have hT' : a = b := hT; subst hT'; exact hF
            | 6, 4 => exact World.ownsRow.kept hF hT (by cases hv : v.ownBlock <;> simp)
            | 7, 4 => exact absurd hdd (by decide)
            | 8, 4 => have hT' : a = b := hT; subst hT'; exact hF
            | 9, 4 => have hT' : a = b := hT; subst hT'; exact hF
            | 10, 4 => have hT' : a = b := hT; subst hT'; exact hF
            | 11, 4 => exact absurd hdd (by decide)
            | 12, 4 => exact absurd hdd (by decide)
            | _ + 13, 4 => simp at hi; omega
            | _, 5 => exact hF
            | 0, 6 => obtain ⟨g, h1, h2, h3⟩ := hF; exact ⟨g, h1, h2, (hT.block g (Array.getElem?_eq_some_iff.1 h3).1 (by simp)).trans h3⟩
            | 1, 6 => have hT' : a = b := hT; subst hT'; exact hF
            | 2, 6 => have hT' : a = b := hT; subst hT'; exact hF
            | 3, 6 => have hT' : a = b := hT; subst hT'; exact hF
            | 4, 6 => obtain ⟨g, h1, h2, h3⟩ := hF; exact ⟨g, h1, h2, (hT g _ h3 (by simp [hdC])).trans h3⟩
            | 5, 6 => exact absurd (haa.symm.trans (show ancB _ _ _ _ = true by kernel_rfl)) (by decide)
            | 6, 6 => exact absurd rfl hne
            | 7, 6 => exact absurd hdd (by decide)
            | 8, 6 => have hT' : a = b := hT; subst hT'; exact hF
            | 9, 6 => have hT' : a = b := hT; subst hT'; exact hF
            | 10, 6 => have hT' : a = b := hT; subst hT'; exact hF
            | 11, 6 => exact absurd hdd (by decide)
            | 12, 6 => exact absurd hdd (by decide)
            | _ + 13, 6 => simp at hi; omega
            | 0, 7 => exact absurd (haa.symm.trans (show ancB _ _ _ _ = true by kernel_rfl)) (by decide)
            | 1, 7 => exact absurd (haa.symm.trans (show ancB _ _ _ _ = true by kernel_rfl)) (by decide)
            | 2, 7 => exact absurd (haa.symm.trans (show ancB _ _ _ _ = true by kernel_rfl)) (by decide)
            | 3, 7 => exact absurd (haa.symm.trans (show ancB _ _ _ _ = true by kernel_rfl)) (by decide)
            | 4, 7 => exact absurd (haa.symm.trans (show ancB _ _ _ _ = true by kernel_rfl)) (by decide)
            | 5, 7 => exact absurd (haa.symm.trans (show ancB _ _ _ _ = true by kernel_rfl)) (by decide)
            | 6, 7 => exact absurd (haa.symm.trans (show ancB _ _ _ _ = true by kernel_rfl)) (by decide)
            | 7, 7 => exact absurd rfl hne
            | 8, 7 => have hT' : a = b := hT; subst hT'; exact hF
            | 9, 7 => have hT' : a = b := hT; subst hT'; exact hF
            | 10, 7 => have hT' : a = b := hT; subst hT'; exact hF
            | 11, 7 => exact absurd hdd (by decide)
            | 12, 7 => exact absurd hdd (by decide)
            | _ + 13, 7 => simp at hi; omega
            | _, 8 => exact hF
            | _, 9 => exact hF
            | _, 10 => exact hF
            | 0, 11 => exact absurd (haa.symm.trans (show ancB _ _ _ _ = true by kernel_rfl)) (by decide)
            | 1, 11 => exact absurd (haa.symm.trans (show ancB _ _ _ _ = true by kernel_rfl)) (by decide)
            | 2, 11 => exact absurd (haa.symm.trans (show ancB _ _ _ _ = true by kernel_rfl)) (by decide)
            | 3, 11 => exact absurd (haa.symm.trans (show ancB _ _ _ _ = true by kernel_rfl)) (by decide)
            | 4, 11 => exact absurd (haa.symm.trans (show ancB _ _ _ _ = true by kernel_rfl)) (by decide)
            | 5, 11 => exact absurd (haa.symm.trans (show ancB _ _ _ _ = true by kernel_rfl)) (by decide)
            | 6, 11 => exact absurd (haa.symm.trans (show ancB _ _ _ _ = true by kernel_rfl)) (by decide)
            | 7, 11 => exact absurd (haa.symm.trans (show ancB _ _ _ _ = true by kernel_rfl)) (by decide)
            | 8, 11 => exact absurd (haa.symm.trans (show ancB _ _ _ _ = true by kernel_rfl)) (by decide)
            | 9, 11 => exact absurd (haa.symm.trans (show ancB _ _ _ _ = true by kernel_rfl)) (by decide)
            | 10, 11 => exact absurd (haa.symm.trans (show ancB _ _ _ _ = true by kernel_rfl)) (by decide)
            | 11, 11 => exact absurd rfl hne
            | 12, 11 => exact absurd hdd (by decide)
            | _ + 13, 11 => simp at hi; omega
            | 0, 12 => exact absurd (haa.symm.trans (show ancB _ _ _ _ = true by kernel_rfl)) (by decide)
            | 1, 12 => exact absurd (haa.symm.trans (show ancB _ _ _ _ = true by kernel_rfl)) (by decide)
            | 2, 12 => exact absurd (haa.symm.trans (show ancB _ _ _ _ = true by kernel_rfl)) (by decide)
            | 3, 12 => exact absurd (haa.symm.trans (show ancB _ _ _ _ = true by kernel_rfl)) (by decide)
            | 4, 12 => exact absurd (haa.symm.trans (show ancB _ _ _ _ = true by kernel_rfl)) (by decide)
            | 5, 12 => exact absurd (haa.symm.trans (show ancB _ _ _ _ = true by kernel_rfl)) (by decide)
            | 6, 12 => exact absurd (haa.symm.trans (show ancB _ _ _ _ = true by kernel_rfl)) (by decide)
            | 7, 12 => exact absurd (haa.symm.trans (show ancB _ _ _ _ = true by kernel_rfl)) (by decide)
            | 8, 12 => exact absurd (haa.symm.trans (show ancB _ _ _ _ = true by kernel_rfl)) (by decide)
            | 9, 12 => exact absurd (haa.symm.trans (show ancB _ _ _ _ = true by kernel_rfl)) (by decide)
            | 10, 12 => exact absurd (haa.symm.trans (show ancB _ _ _ _ = true by kernel_rfl)) (by decide)
            | 11, 12 => exact absurd (haa.symm.trans (show ancB _ _ _ _ = true by kernel_rfl)) (by decide)
            | 12, 12 => exact absurd rfl hne
            | _ + 13, 12 => simp at hi; omega
            | _, _ + 13 => simp at hj; omega
          · refine ⟨fun kk ρ u hkk hc hf hb hW hd => ?_, ?_⟩
            · have hz := hW.size
              exact yield_value (w' := u.alloc (.cells #[] 28)) (.slice (some ⟨u.heap.size, 0, none⟩) 0 0) (by simp [go_sem, hc]) ⟨⟨_, rfl, hz, alloc_new' rfl⟩, hW.alloc hz _, World.grownBy_alloc _ _ _⟩
            refine ⟨fun kk ρ u hkk hc hf hb hW hd => ?_, ?_⟩
            · exact yield_move _ rfl ⟨hb 0 (by kernel_rfl), hW, rfl⟩
            refine ⟨fun kk ρ u hkk hc hf hb hW hd => ?_, ?_⟩
            · exact yield_move _ rfl ⟨hb 6 (by kernel_rfl), hW, rfl⟩
            refine ⟨fun kk ρ u hkk hc hf hb hW hd => ?_, ?_⟩
            · have e1 : ρ (.tmp 27) = .slice A n c := hd.1 rfl rfl
              have e2 : ρ (.tmp 28) = .int .i64 k := hd.2.1 rfl rfl
              clear hd hb
              have hkc : (k : Int) ≤ (c : Int) := by omega
              exact yield_value (w' := u) (.slice A k c) (by simp [go_sem, hc, hf, e1, e2, hkc]) ⟨rfl, hW, rfl⟩
            refine ⟨fun kk ρ u hkk hc hf hb hW hd => ?_, ?_⟩
            · obtain ⟨g, e1, hgB, hgc⟩ : ∃ g, ρ (.tmp 26) = .slice (some ⟨g, 0, none⟩) 0 0 ∧ w0.heap.size ≤ g ∧ u.heap[g]? = some (.cells #[] 28 (0, 0)) := hd.1 rfl rfl
              have e2 : ρ (.tmp 29) = .slice A k c := hd.2.1 rfl rfl
              clear hd hb
              have s1 := (S.sub0 (m := k) hkn).below hW
              rw [flat_take hdC_len] at s1
              refine yield_append (.tmp 26) (.tmp 29) eltHandle rfl w0.heap.size _ 0 [] e1 (own_lit0 hgB hgc) A k c (hds (xs.take k)) e2 s1.see (s1.of_none (by decide)) s1.len (flat_one hdC_one _) (by unfold maxLen; omega) (by omega) hW.size ?_
              intro v' w' O G _
              rw [Nat.zero_add, List.nil_append] at O
              refine ⟨O, hW.grown G hW.size (fun q hq => by simp [Value.ownBlock] at hq; omega), fun g' cs hg' hcs => G.block g' (Array.getElem?_eq_some_iff.1 hg').1 (fun e => ?_)⟩
              simp [Value.ownBlock] at e
              subst e
              rw [hgc] at hg'
              injection hg' with hg'
              injection hg' with hg'
              subst hg'
              simp at hcs
            refine ⟨fun kk ρ u hkk hc hf hb hW hd => ?_, ?_⟩
            · have e1 : ρ (.tmp 3) = .pointer (some ⟨w.heap.size, 0, none⟩) := hb 3 (by kernel_rfl)
              clear hd hb
              have x0 := (hW.cell (World.block_lt_of_cell? _ _ p0)).trans p0
              have x1 := (hW.cell (World.block_lt_of_cell? _ _ p1)).trans p1
              exact yield_value (w' := u) (.agg (hdC (p, q)).toArray) (by simp [go_sem, hc, hf, e1, x0, x1]) ⟨rfl, hW, rfl⟩
            refine ⟨fun kk ρ u hkk hc hf hb hW hd => ?_, ?_⟩
            · have e1 : ρ (.tmp 31) = .agg (hdC (p, q)).toArray := hd.1 rfl rfl
              clear hd hb
              have hz := hW.size
              exact yield_value (w' := u.alloc (.cells (hdC (p, q)).toArray 28)) (.slice (some ⟨u.heap.size, 0, none⟩) 1 1) (by simp [go_sem, hc, hf, e1]) ⟨⟨_, rfl, hz, alloc_new' rfl⟩, hW.alloc hz _, World.grownBy_alloc _ _ _⟩
            refine ⟨fun kk ρ u hkk hc hf hb hW hd => ?_, ?_⟩
            · have O1 : u.ownsRow w0.heap.size 28 2 (ρ (.tmp 30)) k (hds (xs.take k)) := hd.1 rfl rfl
              obtain ⟨g, e2, hgB, hgc⟩ : ∃ g, ρ (.tmp 32) = .slice (some ⟨g, 0, none⟩) 1 1 ∧ w0.heap.size ≤ g ∧ u.heap[g]? = some (.cells (hdC (p, q)).toArray 28 (0, 0)) := hd.2.1 rfl rfl
              clear hd hb
              refine yield_append (.tmp 30) (.tmp 32) eltHandle rfl w0.heap.size _ k _ rfl O1 (some ⟨g, 0, none⟩) 1 1 (hdC (p, q)) e2 (see_lit hgc) (by simp) rfl (hdC_one _) (by unfold maxLen; omega) (by omega) hW.size ?_
              intro v' w' O G _
              exact ⟨O, hW.grown G hW.size (fun q hq => (O1.lt q hq).1), trivial⟩
            refine ⟨fun kk ρ u hkk hc hf hb hW hd => ?_, ?_⟩
            · exact yield_move _ rfl ⟨hb 0 (by kernel_rfl), hW, rfl⟩
            refine ⟨fun kk ρ u hkk hc hf hb hW hd => ?_, ?_⟩
            · exact yield_move _ rfl ⟨hb 6 (by kernel_rfl), hW, rfl⟩
            refine ⟨fun kk ρ u hkk hc hf hb hW hd => ?_, ?_⟩
            · have e1 : ρ (.tmp 34) = .slice A n c := hd.1 rfl rfl
              have e2 : ρ (.tmp 35) = .int .i64 k := hd.2.1 rfl rfl
              clear hd hb
              have hkn' : (k : Int) ≤ (n : Int) := by omega
              exact yield_value (w' := u) (.slice (if c = k then A else A.map (fun x => x.add (k * 2))) (n - k) (c - k)) (by simp [go_sem, hc, hf, e1, e2, hkn']) ⟨rfl, hW, rfl⟩
            refine ⟨fun kk ρ u hkk hc hf hb hW hd => ?_, ?_⟩
            · have O1 : u.ownsRow w0.heap.size 28 2 (ρ (.tmp 33)) (k + 1) (hds (xs.take k) ++ hdC (p, q)) := hd.1 rfl rfl
              have e2 : ρ (.tmp 36) = .slice (if c = k then A else A.map (fun x => x.add (k * 2))) (n - k) (c - k) := hd.2.1 rfl rfl
              clear hd hb
              have s2 := (S.cut (k := k) (K := k * 2) hkn rfl).below hW
              rw [flat_drop hdC_len] at s2
              refine yield_append (.tmp 33) (.tmp 36) eltHandle rfl w0.heap.size _ (k + 1) _ rfl O1 _ _ _ (hds (xs.drop k)) e2 s2.see (s2.of_none (by decide)) s2.len (flat_one hdC_one _) (by unfold maxLen; omega) (by omega) hW.size ?_
              intro v' w' O G _
              rw [show k + 1 + (n - k) = n + 1 by omega, show hds (xs.take k) ++ hdC (p, q) ++ hds (xs.drop k) = hds (xs.take k ++ (p, q) :: xs.drop k) by simp [flat]] at O
              exact ⟨O, hW.grown G hW.size (fun q hq => (O1.lt q hq).1), trivial⟩
            refine ⟨fun kk ρ u hkk hc hf hb hW hd => ?_, ?_⟩
            · exact yield_assign _ rfl ⟨hd.1 rfl rfl, hW, rfl⟩
            trivial
          intro env w2 B2 hF
          have O : w2.ownsRow w0.heap.size 28 2 (env 12) (n + 1) (hds (xs.take k ++ (p, q) :: xs.drop k)) := hF 12 (of_decide_eq_true (by kernel_rfl)) (fun i hi => by match i with | 0 | 1 | 2 | 3 | 4 | 5 | 6 | 7 | 8 | 9 | 10 | 11 | 12 => rfl | _ + 13 => simp at hi; omega)
          clear hF
          have hr : List.range 45 = [0, 1, 2, 3, 4, 5, 6, 7, 8, 9, 10, 11, 12, 13, 14, 15, 16, 17, 18, 19, 20, 21, 22, 23, 24, 25, 26, 27, 28, 29, 30, 31, 32, 33, 34, 35, 36, 37, 38, 39, 40, 41, 42, 43, 44] := rfl
          unfold after
          simp only [List.size_toArray, List.length_cons, List.length_nil, Nat.reduceAdd, hr, List.map_cons, List.map_nil]
          simp [idxOf, List.findIdx?, List.findIdx?.go]
          clear hr
          obtain ⟨B, d, hv, _⟩ := own_form O
          rw [hv] at O ⊢
          rw [← N.out] at O
          have T3 := below_next hE2.below B2
          have o3 := own_lower O hE2.size
          clear O B2 hv p0 p1
          have C2 := fun W (hW : Sl W B (n + 1) d 2 (hds (insL xs (p, q)))) => folS_any B (n + 1) d (insL xs (p, q)) W hW HO.out
          clear hE2 S
          cases hm : folV (insL xs (p, q)) with
          | false =>
            have R := hid (follow_not HV.out hm)
            rw [hm] at C2
            clear hm
            go_wp2_with fail
            refine (C2 _ (own_sl o3)).mono ?_
            rintro e w4 ⟨rfl, x4⟩
            have T4 := below_next T3 x4.below
            clear T3 x4 o3 C2
            have s4 := (h.below T4)
            go_wp2_with (at_builtin; refine wpList_append_see _ rfl (.tmp 41) (.tmp 42) eltHandle rfl w4.heap.size (.slice (some ⟨w4.heap.size, 0, none⟩) 0 0) 0 [] rfl (own_empty w4 28 2) A n c (hds xs) rfl (s4.see.alloc _) (s4.of_none (by decide)) s4.len (flat_one hdC_one _) (by unfold maxLen; omega) (by omega) (by simp) ?_; intro v5 w5 o5 g5 a5)
            rw [Nat.zero_add, List.nil_append] at o5
            have b5 : Below w4.heap.size w4 w5 := ((Below.refl _ _).alloc (Nat.le_refl _) _).grown g5 (by simp) (by rintro k' hk'; simp [Value.ownBlock] at hk'; omega)
            obtain ⟨B5, d5, rfl, _⟩ := own_form o5
            clear g5 a5 s4
            go_wp2
            go_ret2
            exact ⟨B5, _, d5, ret_sb rfl (by rw [R.out]), by rw [R.out]; exact own_lower o5 T4.size, below_next T4 b5⟩
          | true =>
            have R := hid (follow_yes HV.out hm)
            rw [hm] at C2
            clear hm
            go_wp2_with fail
            refine (C2 _ (own_sl o3)).mono ?_
            rintro e w4 ⟨rfl, x4⟩
            go_wp2
            go_ret2
            exact ⟨B, _, d, ret_sb rfl (by rw [R.out]), by rw [R.out]; exact own_ext o3 x4, below_next T3 x4.below⟩
theorem rem_next {xs : List Hd} {k : Nat} {y x : Hd} (h : xs[k]? = some y) : remL (xs.take (k + 1)) x = remL (xs.take k) x ++ (if y = x then [] else [y]) := by
  unfold remL
  rw [List.take_add_one, h, List.filter_append]
  congr 1
  simp only [Option.toList_some, List.filter_cons, List.filter_nil]
  by_cases e : y = x <;> simp [e]
theorem rem_yes {xs : List Hd} {k : Nat} {a b : ByteArray} {x : Hd} (h : xs[k]? = some (a, b)) (e : ¬ (a, b) = x) : hds (remL (xs.take (k + 1)) x) = hds (remL (xs.take k) x) ++ [.string a, .string b] ∧ (remL (xs.take (k + 1)) x).length = (remL (xs.take k) x).length + 1 := by
  rw [rem_next h, if_neg e]; simp [flat]
theorem rem_no {xs : List Hd} {k : Nat} {y x : Hd} (h : xs[k]? = some y) (e : y = x) : remL (xs.take (k + 1)) x = remL (xs.take k) x := by
  rw [rem_next h, if_pos e]; simp
theorem rem_le (xs : List Hd) (x : Hd) : (remL xs x).length ≤ xs.length := List.length_filter_le _ _
theorem rem_lt {xs : List Hd} {x : Hd} : decide ((remL xs x).length < xs.length) = hasL xs x := by
  rw [Bool.eq_iff_iff, decide_eq_true_iff, hasL_iff]
  unfold remL
  rw [List.length_filter_lt_length_iff_exists]
  constructor
  · rintro ⟨y, hy, h⟩
    simp at h
    rw [← h]; exact hy
  · intro h
    exact ⟨x, h, by simp⟩
set_option maxHeartbeats 1000000 in
theorem unfollowS_any (A : Option Addr) (n c : Nat) (xs : List Hd) (p q : ByteArray) (w : World) (h : Sl w A n c 2 (hds xs)) (hok : hdOk xs) :
    Calls Tryd.prog 44 #[.slice A n c, hdA p q] w fun e w' => ∃ B k d, e = .returned (.tuple #[.slice B k d, .bool (unfollowV xs (p, q)).2]) ∧ w'.ownsRow w.heap.size 28 2 (.slice B k d) k (hds (unfollowV xs (p, q)).1) ∧ Below w.heap.size w w' := by
  have hlx : xs.length = n := h.count hdC_len (by omega)
  have hmx := h.max
  have hcx := h.cap
  unfold maxLen at hmx
  have hQ := neqHandle'
  have b0 : Below w.heap.size w (w.alloc (.cells #[Value.string p, Value.string q] 28)) := (Below.refl _ _).alloc (Nat.le_refl _) _
  have O1 : ((w.alloc (.cells #[Value.string p, Value.string q] 28)).alloc (.cells #[] 28)).ownsRow (w.heap.size + 1) 28 2 (.slice (some ⟨w.heap.size + 1, 0, none⟩) 0 0) 0 [] := by simpa using own_empty (w.alloc (.cells #[Value.string p, Value.string q] 28)) 28 2
  have b1 := b0.alloc b0.size (.cells #[] 28)
  cases hv : folV xs with
  | false =>
    have R := hid (unfollow_no (x := (p, q)) hv)
    have C := fun W (hW : Sl W A n c 2 (hds xs)) => folS_any A n c xs W hW hok
    rw [hv] at C
    have H := hid (And.intro O1 b1)
    have h1 := h.below b1
    have h2 := fun w' (x : Ext.of ((w.alloc (.cells #[Value.string p, Value.string q] 28)).alloc (.cells #[] 28)) w') => h1.ext x
    clear hv hok hlx O1 b1 h b0
    go_enter Tryd.func44, Tryd.ntmps44
    by_cases hn : 0 < n
    · go_wp2
      refine wp_loop_rounds 1 ?_
      rw [rounds_succ]
      go_wp2_with fail
      refine (C _ h1).mono ?_
      rintro e w1 ⟨rfl, x1⟩
      go_wp2_with fail
      refine (C _ (h2 _ x1)).mono ?_
      rintro e w2 ⟨rfl, x2⟩
      go_wp2
      go_ret2
      exact ⟨_, _, _, ret_sb rfl (by rw [R.out]), by rw [R.out]; exact own_lower (own_ext (own_ext H.out.1 x1) x2) (Nat.le_succ _), below_next (below_next H.out.2 x1.below) x2.below⟩
    · go_wp2
      refine wp_loop_rounds 1 ?_
      rw [rounds_succ]
      go_wp2_with fail
      refine (C _ h1).mono ?_
      rintro e w2 ⟨rfl, x2⟩
      go_wp2
      go_ret2
      exact ⟨_, _, _, ret_sb rfl (by rw [R.out]), by rw [R.out]; exact own_lower (own_ext H.out.1 x2) (Nat.le_succ _), below_next H.out.2 x2.below⟩
  | true =>
    have hn := (folV_iff.1 hv).1
    rw [hlx] at hn
    have R := hid (unfollow_yes (x := (p, q)) hv)
    have C := fun W (hW : Sl W A n c 2 (hds xs)) => folS_any A n c xs W hW hok
    rw [hv] at C
    have HL := hid hlx
    have hc : (w.alloc (.cells #[Value.string p, Value.string q] 28)).heap[w.heap.size]? = some (.cells #[Value.string p, Value.string q] 28 (0, 0)) := alloc_new' rfl
    have hz : (w.alloc (.cells #[Value.string p, Value.string q] 28)).heap.size = w.heap.size + 1 := by simp
    have p0 : (w.alloc (.cells #[Value.string p, Value.string q] 28)).cell? ⟨w.heap.size, 0, none⟩ = some (.string p) := cell_of_row _ w.heap.size 0 _ _ _ hc
    have p1 : (w.alloc (.cells #[Value.string p, Value.string q] 28)).cell? ⟨w.heap.size, 1, none⟩ = some (.string q) := cell_of_row _ w.heap.size 1 _ _ _ hc
    have b2 : Below (w.heap.size + 1) (w.alloc (.cells #[Value.string p, Value.string q] 28)) ((w.alloc (.cells #[Value.string p, Value.string q] 28)).alloc (.cells #[] 28)) := (Below.refl _ _).alloc (by rw [hz]; exact Nat.le_refl _) _
    have S1 := h.below b0
    have HB := hid (And.intro b0 (And.intro p0 p1))
    clear hv hok hlx hc b0 b1 p0 p1
    go_enter Tryd.func44, Tryd.ntmps44
    go_wp2
    generalize hW0 : (w.alloc (.cells #[Value.string p, Value.string q] 28)).alloc (.cells #[] 28) = W0 at *
    generalize hW1 : (w.alloc (.cells #[Value.string p, Value.string q] 28)) = W1 at *
    clear hW0 hW1
    go_loopw [6, 7] (fun v i wr => ∃ (k : Nat), k ≤ n ∧ i = .int .i64 k ∧ wr.ownsRow (w.heap.size + 1) 28 2 v (remL (xs.take k) (p, q)).length (hds (remL (xs.take k) (p, q))) ∧ Below (w.heap.size + 1) W1 wr) (fun _ i _ => n - (intOf i).toNat)
    case atStart => exact ⟨0, Nat.zero_le _, rfl, O1, b2⟩
    case round =>
      obtain ⟨k, hk, rfl, hown0, hb0⟩ := hrel
      have s0 : Sl wr A n c 2 (hds xs) := S1.below (by rw [hz]; exact hb0)
      by_cases hlt : k < n
      · go_wp2_with fail
        refine (C _ s0).mono ?_
        rintro e w2 ⟨rfl, x2⟩
        have hown := own_ext hown0 x2
        have hb : Below (w.heap.size + 1) W1 w2 := hb0.trans (x2.below.mono (by rw [← hz]; exact hb0.size))
        have s2 := s0.ext x2
        have p0 := (hb.cell (p := ⟨w.heap.size, 0, none⟩) (Nat.lt_succ_self _)).trans HB.out.2.1
        have p1 := (hb.cell (p := ⟨w.heap.size, 1, none⟩) (Nat.lt_succ_self _)).trans HB.out.2.2
        clear hown0 hb0 x2 C s0
        obtain ⟨ad, a, b, hA, hab, c0, c1⟩ := s2.hd hlt
        subst hA
        have e0 := more_cell c0
        have e1 := more_cell c1
        have f0 := more_cell p0
        have f1 := more_cell p1
        have hml := rem_le (xs.take k) (p, q)
        have hml2 : (xs.take k).length ≤ 10 := by rw [List.length_take]; omega
        have hq1 : w.heap.size + 1 ≤ w2.heap.size := by have := hb.size; omega
        cases D : hdQ a b p q with
        | true =>
          have N := hid (rem_no hab (show (a, b) = (p, q) by unfold hdQ at D; exact of_decide_eq_true D))
          clear hab hz
          go_wp2
          refine wp_region_more (by kernel_rfl) (by kernel_rfl) ?_
          repeat (go_big_quiet_step (fail))
          refine wpQuiet_nil ?_
          rintro _ ⟨z, rfl⟩
          go_wp2
          go_roundw
          case rel => exact ⟨k + 1, by omega, by go_num, by rw [N.out]; exact own_more hown z, hb.trans ((more_below w2 z).mono hq1)⟩
          case measure => simp [intOf]; omega
        | false =>
          have N := hid (rem_yes (x := (p, q)) hab (fun e => by rw [hdQ_of e] at D; cases D))
          clear hab hz
          go_wp2
          refine wp_region_more (by kernel_rfl) (by kernel_rfl) ?_
          repeat (go_big_quiet_step (fail))
          refine wpQuiet_nil ?_
          rintro _ ⟨z, rfl⟩
          have hown1 := own_more hown z
          have hb1 := hb.trans ((more_below w2 z).mono hq1)
          have g0 := e0 z
          have g1 := e1 z
          have hq2 : w.heap.size + 1 ≤ (More w2 z).heap.size := Nat.le_trans hq1 (more_below w2 z).size
          clear hown hb c0 c1 p0 p1 s2 e0 e1 f0 f1
          generalize hV : More w2 z = V at *
          clear hV
          go_wp2_with (at_builtin; refine wpList_append_see _ rfl (.tmp 25) (.tmp 30) eltHandle rfl (w.heap.size + 1) u6 _ _ rfl (hown1.alloc _) (some ⟨V.heap.size, 0, none⟩) 1 1 (hdC (a, b)) rfl (see_new _ (hdC (a, b)) _ _ rfl) (by simp) rfl (hdC_one _) (by unfold maxLen; omega) (by omega) (by simp; omega) ?_; intro v' w' hown' hg' hat')
          have hb' := (hb1.alloc hq2 _).grown hg' (Nat.le_trans hq2 (by simp)) (fun q hq => (hown1.lt q hq).1)
          clear hg' hat' hown1 g0 g1
          go_wp2
          go_roundw
          case rel => exact ⟨k + 1, by omega, by go_num, by rw [N.out.1, N.out.2]; exact hown', hb'⟩
          case measure => simp [intOf]; omega
      · obtain rfl : k = n := by omega
        have hT : xs.take k = xs := List.take_of_length_le (by rw [HL.out]; exact Nat.le_refl _)
        rw [hT] at hown0
        obtain ⟨B, d, rfl, _⟩ := own_form hown0
        have hml := rem_le xs (p, q)
        rw [HL.out] at hml
        have D := rem_lt (xs := xs) (x := (p, q))
        rw [HL.out] at D
        clear hT S1
        go_wp2_with fail
        refine (C _ s0).mono ?_
        rintro e w2 ⟨rfl, x2⟩
        have hown := own_ext hown0 x2
        have hb : Below (w.heap.size + 1) W1 w2 := hb0.trans (x2.below.mono (by rw [← hz]; exact hb0.size))
        have hBB := HB.out.1.trans (hb.mono (Nat.le_succ _))
        clear hown0 hb0 x2 C s0 hz O1 b2 h hb
        go_wp2
        go_ret2
        exact ⟨B, _, d, ret_sb rfl (by rw [R.out]), by rw [R.out]; exact own_lower hown (Nat.le_succ _), hBB⟩
end Go.Proofs.YtoagpfdhbcgdcaaDoor
