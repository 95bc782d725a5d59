/- The contracts of PagesOf, the program's and the reference's. -/
import Derived.Test.YtocaopabpjfhhaaRows2W
namespace Go.Proofs.Ytocaopabpjfhhaa
open Go.RowKit
set_option linter.unusedVariables false
theorem pg_step {xs : List Int} {m f : Int} {g : Nat} {done : List (List Int)} (b : pageOk xs.length f m) (hd : done ++ pgF xs m g f = pagesL xs m) (hg : pageOk xs.length f m → (xs.length : Int) < f + g) :
    ∃ g', g = g' + 1 ∧ (done ++ [pageL xs f m]) ++ pgF xs m g' (pageN xs.length f m) = pagesL xs m ∧ (pageOk xs.length (pageN xs.length f m) m → (xs.length : Int) < pageN xs.length f m + g') := by
  have h1 := hg b
  have h2 := b.2.2.2
  have h3 := b.2.2.1
  obtain ⟨g', rfl⟩ : ∃ g', g = g' + 1 := ⟨g - 1, by omega⟩
  refine ⟨g', rfl, ?_, fun b' => ?_⟩
  · rw [← hd, pgF_yes b, List.append_assoc]; rfl
  · have h4 := b'.2.1.1
    rw [pageN_yes b] at h4 ⊢
    split at h4
    · rename_i hlt
      rw [if_pos hlt]; push_cast at h1 ⊢; omega
    · omega
theorem pg_end {xs : List Int} {m f : Int} {g : Nat} {done : List (List Int)} (b : ¬ pageOk xs.length f m) (hd : done ++ pgF xs m g f = pagesL xs m) : done = pagesL xs m := by
  rw [pgF_no b, List.append_nil] at hd; exact hd
theorem pg_less {n : Nat} {f m : Int} (b : pageOk n f m) : pageN n f m < 0 ∨ f < pageN n f m := by
  rw [pageN_yes b]
  have h := b.2.2.1.1
  split
  · right; omega
  · left; omega
set_option maxHeartbeats 1000000 in
theorem pagesI_any (A : Option Addr) (n c : Nat) (xs : List Int) (m : Int) (w : World) (h : Sl w A n c 1 (ints xs)) :
    Calls Try.prog 33 #[.slice A n c, .int .i64 m] w fun e w' => ∃ B k d, e = .returned (.slice B k d) ∧ k ≤ 41 ∧ Below w.heap.size w w' ∧ ∃ ps, Pages w' w.heap.size (.slice B k d) ps ∧ pxs ps = pagesL xs m := by
  have hlx : xs.length = n := by have := h.len; simpa using this
  have HL := hid hlx
  have hcap := h.cap
  have hmax := h.max
  unfold maxLen at hmax
  by_cases b0 : n ≤ 40
  · by_cases b2 : 1 ≤ m ∧ m ≤ 40
    · have hb2 := inB_yes b2
      clear hlx
      obtain ⟨b3, b4⟩ := b2
      go_enter Try.func33, Try.ntmps33
      go_wp2_with (go_at_call 46; refine (within_any _ _ _ _).mono ?_; rintro e w' ⟨rfl, rfl⟩)
      go_loopw [5, 6] (fun v i wr => ∃ (f : Int) (B : Option Addr) (k d : Nat) (ps : List Pg) (g : Nat), v = .slice B k d ∧ i = .int .i64 f ∧ Hid (Pages wr w.heap.size (.slice B k d) ps) ∧ Hid (pxs ps ++ pgF xs m g f = pagesL xs m) ∧ Hid (pageOk xs.length f m → (xs.length : Int) < f + g) ∧ -1 ≤ f ∧ f ≤ 40 ∧ k + g ≤ 41 ∧ Hid (Below w.heap.size w wr)) (fun _ i _ => if intOf i < 0 then 0 else 42 - (intOf i).toNat)
      case atStart => exact ⟨0, none, 0, 0, [], 41, rfl, rfl, Pages.nil _ _, rfl, (fun h => by have := h.1; show (xs.length : Int) < 0 + (41 : Nat); omega), by omega, by omega, by omega, Below.refl _ _⟩
      case round =>
        obtain ⟨f, B, k, d, ps, g, rfl, rfl, hP, hD, hG, f0, f1, hk, hB⟩ := hrel
        have hl := hid hP.out.len
        by_cases b : 0 ≤ f ∧ f < n
        · have ok : pageOk xs.length f m := by rw [HL.out]; exact ⟨b0, ⟨b.1, f1⟩, ⟨b3, b4⟩, b.2⟩
          obtain ⟨g', rfl, hD', hG'⟩ := pg_step ok hD.out hG.out
          have hD' := hid hD'
          have hG' := hid hG'
          have hless := pg_less ok
          have hN := pageN_small (n := xs.length) (f := f) (m := m)
          rw [HL.out] at hless hN
          have hps := pageL_small (xs := xs) (f := f) (m := m)
          clear ok hD hG
          obtain ⟨b5, b6⟩ := b
          go_wp2_with fail
          refine (pageI_any A n c xs f m _ (h.below hB.out)).mono ?_
          rintro e w2 ⟨B2, k2, d2, rfl, o2, t2⟩
          have hk2 : k2 ≤ 41 := by have := o2.1; simp [ints] at this; omega
          obtain ⟨P2, o2', off2⟩ := pg_new hP.out hB.out.size o2 t2 hk2
          have T2 := hid (below_next hB.out t2)
          have o3 := own_below o2' (((Ext.of.refl w2).alloc (.cells #[.slice B2 k2 d2] 28)).below)
          have P3 := P2.alloc (.cells #[.slice B2 k2 d2] 28)
          have O3 : (w2.alloc (.cells #[.slice B2 k2 d2] 28)).ownsRow w.heap.size 28 1 (.slice B k d) k (pgs ps) := by have := P3.outer; rwa [hl.out] at this
          have hz := T2.out.size
          have HX := hid (And.intro o3 (And.intro P3 off2))
          clear hP hB o2 t2 P2 o2' off2 o3 P3 hps
          go_wp2_with (at_builtin; refine wpList_append_see _ rfl _ _ eltInts rfl w.heap.size _ k (pgs ps) rfl O3 _ 1 1 [.slice B2 k2 d2] rfl (see_new _ [.slice B2 k2 d2] _ _ rfl) (fun e => by cases e) rfl (pgs_one [⟨B2, k2, d2, pageL xs f m⟩]) (by unfold maxLen; omega) (by omega) (by simp; omega) ?_; intro v3 w3 own3 g3 hat)
          have P4 : Pages w3 w.heap.size v3 (ps ++ [⟨B2, k2, d2, pageL xs f m⟩]) := HX.out.2.1.push (p := ⟨B2, k2, d2, pageL xs f m⟩) HX.out.1 hk2 HX.out.2.2 (by rw [hl.out]; exact own3) g3 hat
          have T3 := hid ((T2.out.alloc T2.out.size (.cells #[.slice B2 k2 d2] 28)).grown g3 (Nat.le_trans T2.out.size (by simp)) (fun q hq => (O3.lt q hq).1))
          obtain ⟨B3, d3, rfl, _⟩ := own_form own3
          have P4 := hid P4
          have E4 := hid (show pxs (ps ++ [⟨B2, k2, d2, pageL xs f m⟩]) ++ pgF xs m g' (pageN n f m) = pagesL xs m by have := hD'.out; rw [HL.out] at this; simpa [pxs] using this)
          have G4 := hid (show pageOk xs.length (pageN n f m) m → (xs.length : Int) < pageN n f m + g' by have := hG'.out; rw [HL.out] at this ⊢; exact this)
          clear HX O3 own3 g3 hat T2 hD' hG'
          generalize pageN n f m = f' at *
          go_wp2
          go_roundw
          case rel => exact ⟨f', B3, k + 1, d3, _, g', rfl, rfl, P4, E4, G4, hN.1, hN.2, by omega, T3⟩
          case measure => show (if f' < 0 then 0 else 42 - f'.toNat) < (if f < 0 then 0 else 42 - f.toNat); rw [if_neg (show ¬ f < 0 by omega)]; split <;> omega
        · have R := hid (pg_end (fun ok => b (by rw [HL.out] at ok; exact ⟨ok.2.1.1, ok.2.2.2⟩)) hD.out)
          clear hD hG
          by_cases c0 : 0 ≤ f
          · have c1 : (n : Int) ≤ f := by omega
            clear b
            go_wp2
            go_ret
            exact ⟨B, k, d, rfl, by omega, hB.out, ps, hP.out, R.out⟩
          · clear b
            go_wp2
            go_ret
            exact ⟨B, k, d, rfl, by omega, hB.out, ps, hP.out, R.out⟩
    · have hb2 := inB_no b2
      have R := hid (pagesL_no (xs := xs) (m := m) (fun ok => b2 ok.2.2.1))
      clear b2 hlx
      go_enter Try.func33, Try.ntmps33
      go_wp2_with (go_at_call 46; refine (within_any _ _ _ _).mono ?_; rintro e w' ⟨rfl, rfl⟩)
      go_ret
      exact ⟨_, _, _, rfl, by omega, Below.refl _ _, [], Pages.nil _ _, R.out.symm⟩
  · have b0' : 40 < n := by omega
    have R := hid (pagesL_no (xs := xs) (m := m) (fun ok => b0 (by rw [← hlx]; exact ok.1)))
    clear hlx b0
    go_enter Try.func33, Try.ntmps33
    go_wp2_with (go_at_call 46; refine (within_any _ _ _ _).mono ?_; rintro e w' ⟨rfl, rfl⟩)
    go_ret
    exact ⟨_, _, _, rfl, by omega, Below.refl _ _, [], Pages.nil _ _, R.out.symm⟩
set_option maxHeartbeats 1000000 in
theorem pagesS_any (A : Option Addr) (n c : Nat) (xs : List Int) (m : Int) (w : World) (h : Sl w A n c 1 (ints xs)) :
    Calls Try.prog 32 #[.slice A n c, .int .i64 m] w fun e w' => ∃ B k d, e = .returned (.slice B k d) ∧ k ≤ 41 ∧ Below w.heap.size w w' ∧ ∃ ps, Pages w' w.heap.size (.slice B k d) ps ∧ pxs ps = pagesL xs m := by
  have hlx : xs.length = n := by have := h.len; simpa using this
  have HL := hid hlx
  have hcap := h.cap
  have hmax := h.max
  unfold maxLen at hmax
  have P0 := hid (Pages.empty w)
  have T0 := hid ((Below.refl w.heap.size w).alloc (Nat.le_refl _) (.cells #[] 28))
  clear hlx
  go_enter Try.func32, Try.ntmps32
  go_wp2
  go_loopw [5, 6] (fun v i wr => ∃ (f : Int) (B : Option Addr) (k d : Nat) (ps : List Pg) (g : Nat), v = .slice B k d ∧ i = .int .i64 f ∧ Hid (Pages wr w.heap.size (.slice B k d) ps) ∧ Hid (pxs ps ++ pgF xs m g f = pagesL xs m) ∧ Hid (pageOk xs.length f m → (xs.length : Int) < f + g) ∧ -1 ≤ f ∧ f ≤ 40 ∧ k + g ≤ 41 ∧ Hid (Below w.heap.size w wr)) (fun _ i _ => if intOf i < 0 then 0 else 42 - (intOf i).toNat)
  case atStart => exact ⟨0, _, 0, 0, [], 41, rfl, rfl, P0, rfl, (fun h => by have := h.1; show (xs.length : Int) < 0 + (41 : Nat); omega), by omega, by omega, by omega, T0⟩
  case round =>
    obtain ⟨f, B, k, d, ps, g, rfl, rfl, hP, hD, hG, f0, f1, hk, hB⟩ := hrel
    clear P0 T0
    have hl := hid hP.out.len
    by_cases hf : 0 ≤ f
    · have hN := pageN_small (n := n) (f := f) (m := m)
      by_cases ok : pageOk xs.length f m
      · obtain ⟨g', rfl, hD', hG'⟩ := pg_step ok hD.out hG.out
        have hD' := hid hD'
        have hG' := hid hG'
        have hless := pg_less ok
        rw [HL.out] at hless
        have hps := pageL_small (xs := xs) (f := f) (m := m)
        have hpos := pageL_pos ok
        clear ok hD hG
        go_wp2_with fail
        refine (pageS_any A n c xs f m _ (h.below hB.out)).mono ?_
        rintro e w2 ⟨B2, k2, d2, rfl, o2, t2⟩
        have hk2 : k2 ≤ 41 ∧ 0 < k2 := by have := o2.1; simp [ints] at this; omega
        obtain ⟨hk2, hk20⟩ := hk2
        obtain ⟨P2, o2', off2⟩ := pg_new hP.out hB.out.size o2 t2 hk2
        have T2 := hid (below_next hB.out t2)
        have o3 := own_below o2' (((Ext.of.refl w2).alloc (.cells #[.slice B2 k2 d2] 28)).below)
        have P3 := P2.alloc (.cells #[.slice B2 k2 d2] 28)
        have O3 : (w2.alloc (.cells #[.slice B2 k2 d2] 28)).ownsRow w.heap.size 28 1 (.slice B k d) k (pgs ps) := by have := P3.outer; rwa [hl.out] at this
        have hz := T2.out.size
        have HX := hid (And.intro o3 (And.intro P3 off2))
        clear hP hB o2 t2 P2 o2' off2 o3 P3 hps hpos
        go_wp2_with (at_builtin; refine wpList_append_see _ rfl _ _ eltInts rfl w.heap.size _ k (pgs ps) rfl O3 _ 1 1 [.slice B2 k2 d2] rfl (see_new _ [.slice B2 k2 d2] _ _ rfl) (fun e => by cases e) rfl (pgs_one [⟨B2, k2, d2, pageL xs f m⟩]) (by unfold maxLen; omega) (by omega) (by simp; omega) ?_; intro v3 w3 own3 g3 hat)
        have P4 : Pages w3 w.heap.size v3 (ps ++ [⟨B2, k2, d2, pageL xs f m⟩]) := HX.out.2.1.push (p := ⟨B2, k2, d2, pageL xs f m⟩) HX.out.1 hk2 HX.out.2.2 (by rw [hl.out]; exact own3) g3 hat
        have T3 := hid ((T2.out.alloc T2.out.size (.cells #[.slice B2 k2 d2] 28)).grown g3 (Nat.le_trans T2.out.size (by simp)) (fun q hq => (O3.lt q hq).1))
        obtain ⟨B3, d3, rfl, _⟩ := own_form own3
        have P4 := hid P4
        have E4 := hid (show pxs (ps ++ [⟨B2, k2, d2, pageL xs f m⟩]) ++ pgF xs m g' (pageN n f m) = pagesL xs m by have := hD'.out; rw [HL.out] at this; simpa [pxs] using this)
        have G4 := hid (show pageOk xs.length (pageN n f m) m → (xs.length : Int) < pageN n f m + g' by have := hG'.out; rw [HL.out] at this ⊢; exact this)
        clear HX O3 own3 g3 hat T2 hD' hG'
        generalize pageN n f m = f' at *
        go_wp2
        go_roundw
        case rel => exact ⟨f', B3, k + 1, d3, _, g', rfl, rfl, P4, E4, G4, hN.1, hN.2, by omega, T3⟩
        case measure => show (if f' < 0 then 0 else 42 - f'.toNat) < (if f < 0 then 0 else 42 - f.toNat); rw [if_neg (show ¬ f < 0 by omega)]; split <;> omega
      · have R := hid (pg_end ok hD.out)
        have hL := hid (pageL_no ok)
        have hN2 := pageN_no (by rw [HL.out] at ok; exact ok)
        clear hD hG ok
        go_wp2_with fail
        refine (pageS_any A n c xs f m _ (h.below hB.out)).mono ?_
        rintro e w2 ⟨B2, k2, d2, rfl, o2, t2⟩
        have hk2 : k2 = 0 := by have := o2.1; rw [hL.out] at this; simp [ints] at this; omega
        subst hk2
        have P2 := hid (hP.out.below t2)
        have T2 := hid (below_next hB.out t2)
        have E4 := hid (show pxs ps ++ pgF xs m g (-1) = pagesL xs m by rw [pgF_no (fun h => by have := h.2.1.1; omega), List.append_nil]; exact R.out)
        clear hP hB o2 t2 R
        rw [hN2]
        go_wp2
        go_roundw
        case rel => exact ⟨-1, B, k, d, ps, g, rfl, rfl, P2, E4, (fun h => by have := h.2.1.1; omega), by omega, by omega, hk, T2⟩
        case measure => show (if (-1 : Int) < 0 then 0 else 42 - (-1 : Int).toNat) < (if f < 0 then 0 else 42 - f.toNat); rw [if_pos (by decide), if_neg (by omega)]; omega
    · have R := hid (pg_end (fun ok => hf ok.2.1.1) hD.out)
      clear hD hG
      go_wp2
      go_ret
      exact ⟨B, k, d, rfl, by omega, hB.out, ps, hP.out, R.out⟩
end Go.Proofs.Ytocaopabpjfhhaa
