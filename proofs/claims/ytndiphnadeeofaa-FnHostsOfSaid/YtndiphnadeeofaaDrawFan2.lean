/- The contracts of the draws of followers with a handle or a host. -/
import Derived.Test.YtndiphnadeeofaaDrawFan
namespace Go.Proofs.Ytndiphnadeeofaa
open Go.RowKit
set_option linter.unusedVariables false
set_option linter.unusedSimpArgs false
theorem ret_sh {v v' : Value} (hv : v = v') (x : Value) : Ending.returned (.tuple #[v, x]) = .returned (.tuple #[v', x]) := by rw [hv]
/-- Behind the reader's opening: the result's block lies ahead of the reader. -/
theorem rowAt {w w' : World} {r : Nat} {o : Obj} (h : w.heap[r]? = some o) {g : Nat} (G : w.grownBy w' (some g)) (hne : r ≠ g) : w'.heap[r]? = some o :=
  (G.block r (Array.getElem?_eq_some_iff.1 h).1 (fun e => by injection e with e; exact hne e)).trans h
/-- Two stores into a block of two texts: the reader's bytes lie elsewhere. -/
theorem rd_two {w : World} {r g p : Nat} {x y a b : ByteArray} {T : TypeId} (h : Rd w g p) (hX : w.heap[r]? = some (.cells #[.string x, .string y] T (0, 0))) (hne : r ≠ g) : Rd ((w.setCell ⟨r, 0, none⟩ (.string a)).setCell ⟨r, 1, none⟩ (.string b)) g p := by
  obtain ⟨A, n, c, xs, hg, hs, hx, hn, hA⟩ := h
  have key : bytes xs ≠ [] → ∀ ad, A = some ad → ad.block ≠ r := by
    intro hv ad ha e
    subst ha
    cases xs with
    | nil => exact hv rfl
    | cons x0 xt =>
      obtain ⟨ad', had, hc⟩ := hs.see.ad (k := 0) (by simp)
      cases had
      have h0 := hc 0 (.int .u8 x0) rfl
      rw [addr_zero] at h0
      unfold World.cell? at h0
      rw [e, hX] at h0
      revert h0
      cases ad.spot with
      | some _ => intro h0; simp at h0
      | none =>
        intro h0
        rcases Nat.lt_or_ge ad.off 2 with h1 | h1
        · rcases (show ad.off = 0 ∨ ad.off = 1 by omega) with h2 | h2 <;> rw [h2] at h0 <;> simp at h0
        · rw [show ad.off = (ad.off - 2) + 2 by omega] at h0; simp at h0
  have s1 := hs.see.setCell (p := ⟨r, 0, none⟩) key (.string a)
  have s2 := s1.setCell (p := ⟨r, 1, none⟩) key (.string b)
  refine ⟨A, n, c, xs, ?_, ⟨s2, hs.len, hs.cap, hs.max⟩, hx, hn, hA⟩
  rw [heap_setCell_other _ ⟨r, 1, none⟩ g _ (fun e => hne e.symm), heap_setCell_other _ ⟨r, 0, none⟩ g _ (fun e => hne e.symm)]
  exact hg
set_option maxHeartbeats 1000000 in
theorem drawNames_any (A : Option Addr) (n c : Nat) (xs : List Int) (w : World) (h : Row .u8 w A n c xs) :
    Calls Try.prog 35 #[.slice A n c] w fun e w' => ∃ B k d ys s, e = .returned (.tuple #[.slice B k d, .string s]) ∧ w'.ownsRow w.heap.size 33 2 (.slice B k d) k (hds ys) ∧ hdOk ys ∧ k ≤ 12 ∧ s.size ≤ 200 ∧ Below w.heap.size w w' := by
  go_enter Try.func35, Try.ntmps35
  go_wp2_with fail
  refine (open_any A n c xs w h.sl h.byte).mono ?_
  rintro e w1 ⟨rfl, R1, B1⟩
  go_wp2_with fail
  refine (fans_any _ _ 9 _ R1 (by omega) (by omega) (by omega)).mono ?_
  rintro e w2 ⟨B, k, d, ys, rfl, O, hok, hk, p2, l1, l2, R2, G2⟩
  have B2 := B1.grown G2 B1.size (by rintro _ ⟨rfl⟩; exact Nat.le_refl _)
  have hb1 : w.heap.size < w1.heap.size := R1.lt
  have HOK := hid hok
  clear R1 B1 G2 hok
  go_wp2_with fail
  have next : ∀ k w', (fun k w' => ∃ p', p' ≤ p2 + 2 * k ∧ Rd w' w.heap.size p' ∧ Kept w.heap.size w.heap.size w2 w') k w' → (fun k w' => ∃ p', p' ≤ p2 + 2 * k ∧ Rd w' w.heap.size p' ∧ Kept w.heap.size w.heap.size w2 w') (k + 1) w' := fun k w' ⟨p', hp, h⟩ => ⟨p', by omega, h⟩
  refine wp_region_steps (W := fun k w' => ∃ p', p' ≤ p2 + 2 * k ∧ Rd w' w.heap.size p' ∧ Kept w.heap.size w.heap.size w2 w') (Tr := fun a b => Kept w.heap.size w.heap.size a b) (F := fun i v w' => match i with
      | 0 => v = .slice B k d
      | 1 => IsLit w.heap.size w.heap.size 3 (IsS 200) 9 v w'
      | 2 => v = .pointer (some ⟨w.heap.size, 0, none⟩)
      | 3 => IsI 0 2 v
      | 4 => IsAt w.heap.size w.heap.size (IsS 200) v w'
      | 5 => IsS 200 v
      | 6 => v = .slice B k d
      | 7 => IsS 200 v
      | _ => True) (by kernel_rfl) (by kernel_rfl) ?_ ?_ ?_ ?_
  · exact ⟨p2, by omega, R2.drewN 1, Kept.drew _ _ _⟩
  · intro k a b i v hW hT hF
    match i with
    | 0 => exact hF
    | 1 => exact IsLit.kept hF hT
    | 2 => exact hF
    | 3 => exact hF
    | 4 => exact IsAt.kept hF hT
    | 5 => exact hF
    | 6 => exact hF
    | 7 => exact hF
    | _ + 8 => trivial
  · refine ⟨fun k ρ u hk hc hf hb hW hd => ?_, ?_⟩
    · have hk : k < 8 := hk
      exact yield_move _ rfl ⟨hb 5 (by kernel_rfl), next _ _ hW, Kept.refl _ _ _⟩
    refine ⟨fun k ρ u hk hc hf hb hW hd => ?_, ?_⟩
    · have hk : k < 8 := hk
      obtain ⟨p', hp, hR, hG⟩ := hW
      have hz := hR.lt
      clear hd hb
      refine yield_value (w' := u.alloc (.cells #[Value.string { data := #[114, 101, 100] }, Value.string { data := #[115, 101, 97] }, Value.string { data := #[110, 111, 110, 101] }] 9)) (.slice (some ⟨u.heap.size, 0, none⟩) 3 3) (by simp [go_sem, hc, hf]) ⟨⟨u.heap.size, [Value.string { data := #[114, 101, 100] }, Value.string { data := #[115, 101, 97] }, Value.string { data := #[110, 111, 110, 101] }], rfl, by omega, by omega, alloc_new rfl, rfl, ?_⟩, ⟨p', by omega, hR.alloc _, hG.trans (Kept.alloc _ _ _ _)⟩, Kept.alloc _ _ _ _⟩
      simp only [List.forall_mem_cons]
      exact ⟨⟨_, rfl, by first | decide | omega⟩, ⟨_, rfl, by first | decide | omega⟩, ⟨_, rfl, by first | decide | omega⟩, fun _ h => by cases h⟩
    refine ⟨fun k ρ u hk hc hf hb hW hd => ?_, ?_⟩
    · have hk : k < 8 := hk
      exact yield_move _ rfl ⟨hb 4 (by kernel_rfl), next _ _ hW, Kept.refl _ _ _⟩
    refine ⟨fun k ρ u hk hc hf hb hW hd => ?_, ?_⟩
    · have hk : k < 8 := hk
      have e0 : (ρ (.tmp 12)) = .pointer (some ⟨w.heap.size, 0, none⟩) := hd.1 rfl rfl
      obtain ⟨p', hp, hR, hG⟩ := hW
      clear hd hb
      refine yield_call 53 #[.pointer (some ⟨w.heap.size, 0, none⟩), .int .i64 3] (by simp [go_sem, hc, hf, e0]) ?_
      refine (pick_any _ _ _ _ hR (by omega) (by omega) (by omega) ).mono ?_
      rintro e w3 ⟨q, rfl, q0, q1, R3, G3⟩
      exact ⟨_, rfl, ⟨q, rfl, q0, by omega⟩, ⟨p' + 1, by omega, R3, hG.trans (.of G3)⟩, .of G3⟩
    refine ⟨fun k ρ u hk hc hf hb hW hd => ?_, ?_⟩
    · have hk : k < 8 := hk
      have e0 : IsLit w.heap.size w.heap.size 3 (IsS 200) 9 (ρ (.tmp 11)) u := hd.1 rfl rfl
      obtain ⟨q1, e1, l1, u1⟩ : IsI 0 2 (ρ (.tmp 13)) := hd.2.1 rfl rfl
      clear hd hb
      obtain ⟨B, eB, hA⟩ := IsLit.at e0 (q := q1) (by omega) (by omega)
      clear e0
      exact yield_value (w' := u) _ (by simp [go_sem, hc, hf, eB, e1, IntWalk.i64_in, show q1 < 3 by omega, l1]) ⟨hA, next _ _ hW, Kept.refl _ _ _⟩
    refine ⟨fun k ρ u hk hc hf hb hW hd => ?_, ?_⟩
    · have hk : k < 8 := hk
      have e0 : IsAt w.heap.size w.heap.size (IsS 200) (ρ (.tmp 14)) u := hd.1 rfl rfl
      obtain ⟨B, j, x, eB, _, _, hx, hq⟩ := e0
      clear hd hb
      obtain ⟨q, rfl, hq⟩ := hq
      exact yield_value (w' := u) _ (by simp [go_sem, hc, hf, eB, hx]) ⟨⟨q, rfl, hq⟩, next _ _ hW, Kept.refl _ _ _⟩
    refine ⟨fun k ρ u hk hc hf hb hW hd => ?_, ?_⟩
    · have hk : k < 8 := hk
      exact yield_assign _ rfl ⟨hd.1 rfl rfl, next _ _ hW, Kept.refl _ _ _⟩
    refine ⟨fun k ρ u hk hc hf hb hW hd => ?_, ?_⟩
    · have hk : k < 8 := hk
      exact yield_assign _ rfl ⟨hd.1 rfl rfl, next _ _ hW, Kept.refl _ _ _⟩
    trivial
  intro env w' hW hF
  obtain ⟨p', hp, hR, hG⟩ := hW
  replace hp : p' ≤ p2 + 2 * 8 := hp
  have y2 : (env 6) = .slice B k d := hF 6 (of_decide_eq_true (by kernel_rfl))
  obtain ⟨x3, y3, l3⟩ : IsS 200 (env 7) := hF 7 (of_decide_eq_true (by kernel_rfl))
  clear hF next
  have hr : List.range 16 = [0, 1, 2, 3, 4, 5, 6, 7, 8, 9, 10, 11, 12, 13, 14, 15] := rfl
  unfold after
  simp only [List.size_toArray, List.length_cons, List.length_nil, Nat.reduceAdd, hr, List.map_cons, List.map_nil]
  simp [idxOf, List.findIdx?, List.findIdx?.go, y2, y3]
  clear hr
  have G3 : w2.grownBy w' (some w.heap.size) := ⟨hG.os, hG.tape, hG.output, hG.size, fun q hq hne => hG.block q hq (fun e => hne (by rw [e])) (fun e => hne (by rw [e]))⟩
  have O3 := O.kept G3 (by right; intro e; have := (O.lt _ e).1; omega)
  have B3 := B2.grown G3 B2.size (by rintro _ ⟨rfl⟩; exact Nat.le_refl _)
  go_wp2
  exact bodyPost_ret (v := .tuple #[.slice B k d, .string x3]) (by simp [results, Try.results35, go_sem]) rfl ⟨B, k, d, ys, x3, rfl, own_lower O3 (by omega), HOK.out, hk, l3, B3⟩
set_option maxHeartbeats 2000000 in
theorem drawFollow_any (A : Option Addr) (n c : Nat) (xs : List Int) (w : World) (h : Row .u8 w A n c xs) :
    Calls Try.prog 38 #[.slice A n c] w fun e w' => ∃ B k d ys a b, e = .returned (.tuple #[.slice B k d, hdA a b]) ∧ w'.ownsRow w.heap.size 33 2 (.slice B k d) k (hds ys) ∧ hdOk ys ∧ k ≤ 12 ∧ a.size ≤ 200 ∧ b.size ≤ 200 ∧ Below w.heap.size w w' := by
  have hb := h.byte
  have hr0 : (w.alloc (.cells #[.string ⟨#[]⟩, .string ⟨#[]⟩] 33)).heap[w.heap.size]? = some (.cells #[.string ⟨#[]⟩, .string ⟨#[]⟩] 33 (0, 0)) := alloc_new' rfl
  have b0 : Below w.heap.size w (w.alloc (.cells #[.string ⟨#[]⟩, .string ⟨#[]⟩] 33)) := (Below.refl _ _).alloc (Nat.le_refl _) _
  have hz0 : (w.alloc (.cells #[.string ⟨#[]⟩, .string ⟨#[]⟩] 33)).heap.size = w.heap.size + 1 := by simp
  go_enter Try.func38, Try.ntmps38
  go_wp2_with fail
  refine (open_any A n c xs _ (h.sl.alloc _) hb).mono ?_
  rintro e w1 ⟨rfl, R1, B1⟩
  rw [hz0] at R1 B1
  have r1 := (B1.block w.heap.size (by omega)).trans hr0
  have T1 := b0.trans (B1.mono (Nat.le_succ _))
  clear B1 hr0 b0 h hb
  go_wp2_with fail
  refine (fans_any (w.heap.size + 1) _ 9 _ R1 (by omega) (by omega) (by omega)).mono ?_
  rintro e w2 ⟨B, k, d, ys, rfl, O, hok, hk, p2, l1, l2, R2, G2⟩
  have r2 := rowAt r1 G2 (by omega)
  have T2 := T1.grown G2 T1.size (by rintro _ ⟨rfl⟩; omega)
  have hw1 := R1.lt
  have O := own_lower O (show w.heap.size + 2 ≤ w1.heap.size by omega)
  clear R1 r1 T1 G2
  go_wp2_with fail
  refine (odd_any _ p2 14 _ R2 (by omega) (by omega) (by omega)).mono ?_
  rintro e w3 ⟨o, rfl, p3, l3, l4, R3, G3⟩
  have r3 := rowAt r2 G3 (by omega)
  have T3 := T2.grown G3 T2.size (by rintro _ ⟨rfl⟩; omega)
  have O3 := O.kept G3 (by right; intro e; have := (O.lt _ e).1; omega)
  have HOK := hid hok
  have hz3 : w.heap.size + 2 ≤ w3.heap.size := by have := R3.lt; omega
  clear O hok R2 r2 T2 G3
  cases o with
  | false =>
    go_wp2_with fail
    refine (handle_any _ p3 9 _ R3 (by omega) (by omega) (by omega)).mono ?_
    rintro e w4 ⟨a, b, rfl, ha, hb, p4, l5, l6, R4, G4⟩
    have r4 := rowAt r3 G4 (by omega)
    have T4 := T3.grown G4 T3.size (by rintro _ ⟨rfl⟩; omega)
    have O4 := O3.kept G4 (by right; intro e; have := (O3.lt _ e).1; omega)
    clear O3 R3 r3 T3 G4 R4
    have f0 := frozen_of_row w4 w.heap.size 0 _ _ r4
    have f1 := frozen_of_row w4 w.heap.size 1 _ _ r4
    have c0 := cell_of_row w4 w.heap.size 0 _ _ _ r4
    have c1 := cell_of_row w4 w.heap.size 1 _ _ _ r4
    go_wp2
    have ks := row2 (a := .string a) (b := .string b) r4
    have O5 := O4.kept ks.2 (by right; intro e; have := (O4.lt _ e).1; omega)
    have T5 := T4.grown ks.2 T4.size (by rintro _ ⟨rfl⟩; exact Nat.le_refl _)
    revert ks O5 T5
    generalize ((w4.setCell ⟨w.heap.size, 0, none⟩ (.string a)).setCell ⟨w.heap.size, 1, none⟩ (.string b)) = V
    intro ks O5 T5
    have v0 := cell_of_row V w.heap.size 0 _ _ _ ks.1
    have v1 := cell_of_row V w.heap.size 1 _ _ _ ks.1
    exact bodyPost_ret (v := .tuple #[.slice B k d, hdA a b]) (by simp [results, Try.results38, go_sem, v0, v1]) rfl ⟨B, k, d, ys, a, b, rfl, own_lower O5 (by omega), HOK.out, hk, ha, hb, T5⟩
  | true =>
    have O4 := own_empty w3 33 2
    have O4 := own_lower O4 hz3
    have R4 := R3.alloc (.cells #[] 33)
    have r4 := alloc_old (o := .cells #[] 33) r3
    have T4 := T3.alloc T3.size (.cells #[] 33)
    clear O3 R3 r3 T3
    go_wp2
    generalize hW4 : w3.alloc (.cells #[] 33) = w4 at *
    have hz4 : w.heap.size + 2 ≤ w4.heap.size := by rw [← hW4]; simp; omega
    clear hW4
    go_loopw [5, 6] (fun v i wr => ∃ (j d : Nat) (B : Option Addr) (ys : List Hd), j ≤ 10 ∧ i = .int .i64 j ∧ v = .slice B j d ∧ wr.ownsRow (w.heap.size + 2) 33 2 (.slice B j d) j (hds ys) ∧ hdOk ys ∧ Rd wr (w.heap.size + 1) p3 ∧ wr.heap[w.heap.size]? = some (.cells #[.string ⟨#[]⟩, .string ⟨#[]⟩] 33 (0, 0)) ∧ Below w.heap.size w wr ∧ w.heap.size + 2 ≤ wr.heap.size) (fun _ i _ => 10 - (intOf i).toNat)
    case atStart => exact ⟨0, 0, _, [], by omega, rfl, rfl, O4, (by intro x hx; simp at hx), R4, r4, T4, hz4⟩
    case round =>
      obtain ⟨j, d', B', ys', hj, rfl, rfl, O, hok, R, r, T, hz⟩ := hrel
      clear O4 R4 r4 T4 hz4 HOK
      have HOK := hid hok
      clear hok
      by_cases hlt : j < 10
      · have hv := conv_one wr (97 + (j : Int))
        have hs1 : (⟨#[UInt8.ofNat (97 + (j : Int)).toNat]⟩ : ByteArray).size = 1 := rfl
        generalize (⟨#[UInt8.ofNat (97 + (j : Int)).toNat]⟩ : ByteArray) = nm at hv hs1
        have HS := hid (hdOk_snoc (x := (nm, ⟨#[114, 101, 100]⟩)) HOK.out ⟨by rw [hs1]; omega, by show (⟨#[114, 101, 100]⟩ : ByteArray).size ≤ _; decide⟩)
        have O1 := O.alloc (.cells #[.int .u8 (97 + (j : Int))] 5)
        have O2 := O1.alloc (.cells (hdC (nm, ⟨#[114, 101, 100]⟩)).toArray 33)
        have R2 := (R.alloc (.cells #[.int .u8 (97 + (j : Int))] 5)).alloc (.cells (hdC (nm, ⟨#[114, 101, 100]⟩)).toArray 33)
        have rr := alloc_old (o := .cells (hdC (nm, ⟨#[114, 101, 100]⟩)).toArray 33) (alloc_old (o := .cells #[.int .u8 (97 + (j : Int))] 5) r)
        have T2 := (T.alloc T.size (.cells #[.int .u8 (97 + (j : Int))] 5)).alloc (Nat.le_trans T.size (by simp)) (.cells (hdC (nm, ⟨#[114, 101, 100]⟩)).toArray 33)
        have HB := hid (And.intro O2 (And.intro R2 (And.intro rr T2)))
        clear O1 O2 R2 rr T2 HOK hs1
        go_wp2_with (at_builtin; refine wpList_append_see _ rfl (.tmp 18) (.tmp 25) eltHandle rfl (w.heap.size + 2) _ j (hds ys') rfl HB.out.1 (some ⟨wr.heap.size + 1, 0, none⟩) 1 1 (hdC (nm, ⟨#[114, 101, 100]⟩)) rfl (see_new _ (hdC (nm, ⟨#[114, 101, 100]⟩)) _ _ (by simp)) (by simp) rfl (hdC_one _) (by unfold maxLen; omega) (by omega) (Nat.le_trans hz (by simp; omega)) ?_; intro v5 w5 O5 G5 _)
        rw [show hds ys' ++ hdC (nm, ⟨#[114, 101, 100]⟩) = hds (ys' ++ [(nm, ⟨#[114, 101, 100]⟩)]) by simp [flat]] at O5
        obtain ⟨O2, R2, rr, T2⟩ := HB.out
        have R5 := R2.grown G5 (fun q hq => by have := (O.lt q hq).1; omega)
        have r5 := (G5.block w.heap.size (Array.getElem?_eq_some_iff.1 rr).1 (fun e => by have := (O.lt _ e.symm).1; omega)).trans rr
        have T5 := T2.grown G5 (Nat.le_trans T.size (by simp; omega)) (fun q hq => by have := (O.lt q hq).1; omega)
        have hz5 : w.heap.size + 2 ≤ w5.heap.size := Nat.le_trans hz (Nat.le_trans (by simp; omega) G5.size)
        obtain ⟨B5, d5, rfl, _⟩ := own_form O5
        clear O O2 R R2 r rr T T2 G5 HB hv
        go_wp2
        go_roundw
        case rel => exact ⟨j + 1, d5, B5, _, by omega, by go_num, rfl, O5, HS.out, R5, r5, T5, hz5⟩
        case measure => simp [intOf]; omega
      · obtain rfl : j = 10 := by omega
        go_wp2_with fail
        refine (handle_any _ p3 9 _ R (by omega) (by omega) (by omega)).mono ?_
        rintro e w4 ⟨a, b, rfl, ha, hb, p4, l5, l6, R4, G4⟩
        have r4 := rowAt r G4 (by omega)
        have T4 := T.grown G4 T.size (by rintro _ ⟨rfl⟩; omega)
        have O4 := O.kept G4 (by right; intro e; have := (O.lt _ e).1; omega)
        clear O R r T G4 R4
        have f0 := frozen_of_row w4 w.heap.size 0 _ _ r4
        have f1 := frozen_of_row w4 w.heap.size 1 _ _ r4
        have c0 := cell_of_row w4 w.heap.size 0 _ _ _ r4
        have c1 := cell_of_row w4 w.heap.size 1 _ _ _ r4
        go_wp2
        have ks := row2 (a := .string a) (b := .string b) r4
        have O5 := O4.kept ks.2 (by right; intro e; have := (O4.lt _ e).1; omega)
        have T5 := T4.grown ks.2 T4.size (by rintro _ ⟨rfl⟩; exact Nat.le_refl _)
        revert ks O5 T5
        generalize ((w4.setCell ⟨w.heap.size, 0, none⟩ (.string a)).setCell ⟨w.heap.size, 1, none⟩ (.string b)) = V
        intro ks O5 T5
        have v0 := cell_of_row V w.heap.size 0 _ _ _ ks.1
        have v1 := cell_of_row V w.heap.size 1 _ _ _ ks.1
        exact bodyPost_ret (v := .tuple #[.slice B' 10 d', hdA a b]) (by simp [results, Try.results38, go_sem, v0, v1]) rfl ⟨B', 10, d', ys', a, b, rfl, own_lower O5 (by omega), HOK.out, by omega, ha, hb, T5⟩
def HdU (v : Value) : Prop := ∃ a b : ByteArray, v = hdA a b ∧ a.size ≤ 9223372036854775807 ∧ b.size ≤ 9223372036854775807
def UnAt (r : Nat) (T : TypeId) (base : Nat) (ad : Addr) (k d : Nat) (ys : List Hd) (w : World) : Prop := (∃ a b : ByteArray, w.heap[r]? = some (.cells #[.string a, .string b] T (0, 0)) ∧ a.size ≤ 9223372036854775807 ∧ b.size ≤ 9223372036854775807) ∧ w.ownsRow base T 2 (.slice (some ad) k d) k (hds ys)
theorem UnAt.grown {r base k d g : Nat} {T : TypeId} {ad : Addr} {ys : List Hd} {w w' : World} (h : UnAt r T base ad k d ys w) (hg : w.grownBy w' (some g)) (hne : g ≠ r) (hb : g < base) : UnAt r T base ad k d ys w' := by
  obtain ⟨⟨a, b, hr, h1, h2⟩, O⟩ := h
  exact ⟨⟨a, b, (hg.block r (Array.getElem?_eq_some_iff.1 hr).1 (fun e => hne (by injection e with e; exact e.symm))).trans hr, h1, h2⟩, O.kept hg (by right; intro e; have := (O.lt _ e).1; omega)⟩
set_option maxHeartbeats 4000000 in
theorem drawUnfollow_any (A : Option Addr) (n c : Nat) (xs : List Int) (w : World) (h : Row .u8 w A n c xs) :
    Calls Try.prog 40 #[.slice A n c] w fun e w' => ∃ B k d ys a b, e = .returned (.tuple #[.slice B k d, hdA a b]) ∧ w'.ownsRow w.heap.size 33 2 (.slice B k d) k (hds ys) ∧ hdOk ys ∧ k ≤ 12 ∧ a.size ≤ 9223372036854775807 ∧ b.size ≤ 9223372036854775807 ∧ Below w.heap.size w w' := by
  have hb := h.byte
  have hr0 : (w.alloc (.cells #[.string ⟨#[]⟩, .string ⟨#[]⟩] 33)).heap[w.heap.size]? = some (.cells #[.string ⟨#[]⟩, .string ⟨#[]⟩] 33 (0, 0)) := alloc_new' rfl
  have b0 : Below w.heap.size w (w.alloc (.cells #[.string ⟨#[]⟩, .string ⟨#[]⟩] 33)) := (Below.refl _ _).alloc (Nat.le_refl _) _
  have hz0 : (w.alloc (.cells #[.string ⟨#[]⟩, .string ⟨#[]⟩] 33)).heap.size = w.heap.size + 1 := by simp
  go_enter Try.func40, Try.ntmps40
  go_wp2_with fail
  refine (open_any A n c xs _ (h.sl.alloc _) hb).mono ?_
  rintro e w1 ⟨rfl, R1, B1⟩
  rw [hz0] at R1 B1
  have r1 := (B1.block w.heap.size (by omega)).trans hr0
  have T1 := b0.trans (B1.mono (Nat.le_succ _))
  clear B1 hr0 b0 h hb
  go_wp2_with fail
  refine (fans_any (w.heap.size + 1) _ 9 _ R1 (by omega) (by omega) (by omega)).mono ?_
  rintro e w2 ⟨B, k, d, ys, rfl, O, hok, hk, p2, l1, l2, R2, G2⟩
  have r2 := rowAt r1 G2 (by omega)
  have T2 := T1.grown G2 T1.size (by rintro _ ⟨rfl⟩; omega)
  have hw1 := R1.lt
  have O := own_lower O (show w.heap.size + 2 ≤ w1.heap.size by omega)
  have HOK := hid hok
  clear R1 r1 T1 G2 hok
  have tail : ∀ (W : World) (p : Nat), p ≤ 400 → Rd W (w.heap.size + 1) p → W.heap[w.heap.size]? = some (.cells #[.string ⟨#[]⟩, .string ⟨#[]⟩] 33 (0, 0)) → Below w.heap.size w W → W.ownsRow (w.heap.size + 2) 33 2 (.slice B k d) k (hds ys) →
      Calls Try.prog 56 #[.pointer (some ⟨w.heap.size + 1, 0, none⟩), .int .i64 9] W fun e w4 => ∃ a b, e = .returned (hdA a b) ∧ a.size ≤ 200 ∧ b.size ≤ 200 ∧ w4.heap[w.heap.size]? = some (.cells #[.string ⟨#[]⟩, .string ⟨#[]⟩] 33 (0, 0)) ∧ w4.ownsRow (w.heap.size + 2) 33 2 (.slice B k d) k (hds ys) ∧ Below w.heap.size w w4 := by
    intro W p hp R r T O
    refine (handle_any _ p 9 _ R (by omega) (by omega) (by omega)).mono ?_
    rintro e w4 ⟨a, b, rfl, ha, hb, p4, l5, l6, R4, G4⟩
    exact ⟨a, b, rfl, ha, hb, rowAt r G4 (by omega), O.kept G4 (by right; intro e; have := (O.lt _ e).1; omega), T.grown G4 T.size (by rintro _ ⟨rfl⟩; omega)⟩
  by_cases hk0 : 0 < k
  · have t0 : decide ((0 : Int) < (k : Int)) = true := by simp; omega
    have HK := hid hk0
    clear hk0
    go_wp2_with fail
    refine (pick_any _ p2 2 _ R2 (by omega) (by omega) (by omega)).mono ?_
    rintro e w3 ⟨q, rfl, q0, q1, R3, G3⟩
    have r3 := rowAt r2 G3 (by omega)
    have T3 := T2.grown G3 T2.size (by rintro _ ⟨rfl⟩; omega)
    have O3 := O.kept G3 (by right; intro e; have := (O.lt _ e).1; omega)
    have hz3 : w.heap.size + 2 ≤ w3.heap.size := by have := R3.lt; omega
    clear O R2 r2 T2 G3
    by_cases hq : q = 0
    · have t1 : (q == 0) = true := by simpa using hq
      clear hq tail
      obtain ⟨ad, _, _, hA, _⟩ := (own_sl O3).hd (j := 0) HK.out
      subst hA
      go_wp2_with fail
      have next : ∀ j w', (fun j w' => ∃ p', p' ≤ p2 + 1 + 2 * j ∧ Rd w' (w.heap.size + 1) p' ∧ Kept (w.heap.size + 1) w.heap.size w3 w' ∧ UnAt w.heap.size 33 (w.heap.size + 2) ad k d ys w') j w' → (fun j w' => ∃ p', p' ≤ p2 + 1 + 2 * j ∧ Rd w' (w.heap.size + 1) p' ∧ Kept (w.heap.size + 1) w.heap.size w3 w' ∧ UnAt w.heap.size 33 (w.heap.size + 2) ad k d ys w') (j + 1) w' := fun j w' ⟨p', hp, h⟩ => ⟨p', by omega, h⟩
      refine wp_region_steps (W := fun j w' => ∃ p', p' ≤ p2 + 1 + 2 * j ∧ Rd w' (w.heap.size + 1) p' ∧ Kept (w.heap.size + 1) w.heap.size w3 w' ∧ UnAt w.heap.size 33 (w.heap.size + 2) ad k d ys w') (Tr := fun a b => Kept (w.heap.size + 1) w.heap.size a b) (F := fun i v w' => match i with
          | 0 => v = .slice (some ad) k d
          | 1 => v = .slice (some ad) k d
          | 2 => v = .pointer (some ⟨w.heap.size + 1, 0, none⟩)
          | 3 => v = .slice (some ad) k d
          | 4 => v = .int .i64 k
          | 5 => ∃ j : Nat, j < k ∧ v = .int .i64 j
          | 6 => ∃ j : Nat, j < k ∧ v = .pointer (some (ad.add (j * 2)))
          | 7 => HdU v
          | 8 => v = .slice (some ad) k d
          | _ => True) (by kernel_rfl) (by kernel_rfl) ?_ ?_ ?_ ?_
      · exact ⟨p2 + 1, by omega, R3.drewN 1, Kept.drew _ _ _, ⟨_, _, r3, by decide, by decide⟩, own_drewN O3 1⟩
      · intro k a b i v hW hT hF
        exact hF
      · refine ⟨fun j ρ u hj hc hf hb hW hd => ?_, ?_⟩
        · have hj : j < 10 := hj
          exact yield_move _ rfl ⟨hb 5 (by kernel_rfl), next _ _ hW, Kept.refl _ _ _⟩
        refine ⟨fun j ρ u hj hc hf hb hW hd => ?_, ?_⟩
        · have hj : j < 10 := hj
          exact yield_move _ rfl ⟨hb 5 (by kernel_rfl), next _ _ hW, Kept.refl _ _ _⟩
        refine ⟨fun j ρ u hj hc hf hb hW hd => ?_, ?_⟩
        · have hj : j < 10 := hj
          exact yield_move _ rfl ⟨hb 4 (by kernel_rfl), next _ _ hW, Kept.refl _ _ _⟩
        refine ⟨fun j ρ u hj hc hf hb hW hd => ?_, ?_⟩
        · have hj : j < 10 := hj
          exact yield_move _ rfl ⟨hb 5 (by kernel_rfl), next _ _ hW, Kept.refl _ _ _⟩
        refine ⟨fun j ρ u hj hc hf hb hW hd => ?_, ?_⟩
        · have hj : j < 10 := hj
          have e0 : (ρ (.tmp 21)) = .slice (some ad) k d := hd.1 rfl rfl
          clear hd hb
          exact yield_value (w' := u) (.int .i64 k) (by simp [go_sem, hc, hf, e0]) ⟨rfl, next _ _ hW, Kept.refl _ _ _⟩
        refine ⟨fun j ρ u hj hc hf hb hW hd => ?_, ?_⟩
        · have hj : j < 10 := hj
          have e0 : (ρ (.tmp 20)) = .pointer (some ⟨w.heap.size + 1, 0, none⟩) := hd.1 rfl rfl
          have e1 : (ρ (.tmp 22)) = .int .i64 k := hd.2.1 rfl rfl
          have hk1 := HK.out
          obtain ⟨p', hp, hR, hG, hU⟩ := hW
          clear hd hb
          refine yield_call 53 #[.pointer (some ⟨w.heap.size + 1, 0, none⟩), .int .i64 k] (by simp [go_sem, hc, hf, e0, e1]) ?_
          refine (pick_any _ _ _ _ hR (by omega) (by omega) (by omega)).mono ?_
          rintro e w4 ⟨q', rfl, q0', q1', R4, G4⟩
          exact ⟨_, rfl, ⟨q'.toNat, by omega, by rw [Int.toNat_of_nonneg q0']⟩, ⟨p' + 1, by omega, R4, hG.trans (.of G4), hU.grown G4 (by omega) (by omega)⟩, .of G4⟩
        refine ⟨fun j ρ u hj hc hf hb hW hd => ?_, ?_⟩
        · have hj : j < 10 := hj
          have e0 : (ρ (.tmp 19)) = .slice (some ad) k d := hd.1 rfl rfl
          obtain ⟨i, hi, e1⟩ : ∃ j : Nat, j < k ∧ (ρ (.tmp 23)) = .int .i64 j := hd.2.1 rfl rfl
          clear hd hb
          exact yield_value (w' := u) (.pointer (some (ad.add (i * 2)))) (by simp [go_sem, hc, hf, e0, e1, IntWalk.i64_in, hi]) ⟨⟨i, hi, rfl⟩, next _ _ hW, Kept.refl _ _ _⟩
        refine ⟨fun j ρ u hj hc hf hb hW hd => ?_, ?_⟩
        · have hj : j < 10 := hj
          obtain ⟨i, hi, e0⟩ : ∃ j : Nat, j < k ∧ (ρ (.tmp 24)) = .pointer (some (ad.add (j * 2))) := hd.1 rfl rfl
          clear hd hb
          have hW' := next _ _ hW
          obtain ⟨p', hp, hR, hG, hX, hO⟩ := hW
          obtain ⟨ad', a, b, hA, hab, c0, c1⟩ := (own_sl hO).hd hi
          cases hA
          have hs := HOK.out _ (List.mem_of_getElem? hab)
          exact yield_value (w' := u) (hdA a b) (by simp [go_sem, hc, hf, e0, c0, c1]) ⟨⟨a, b, rfl, hs.1, hs.2⟩, hW', Kept.refl _ _ _⟩
        refine ⟨fun j ρ u hj hc hf hb hW hd => ?_, ?_⟩
        · have hj : j < 10 := hj
          exact yield_assign _ rfl ⟨hd.1 rfl rfl, next _ _ hW, Kept.refl _ _ _⟩
        refine ⟨fun j ρ u hj hc hf hb hW hd => ?_, ?_⟩
        · have hj : j < 10 := hj
          have e0 : (ρ (.tmp 3)) = .pointer (some ⟨w.heap.size, 0, none⟩) := hb 3 (by kernel_rfl)
          obtain ⟨a, b, e1, ha, hb'⟩ : HdU (ρ (.tmp 25)) := hd.1 rfl rfl
          obtain ⟨p', hp, hR, hG, ⟨x, y, hX, _⟩, hO⟩ := hW
          have f0 := frozen_of_row u w.heap.size 0 _ _ hX
          have f1 := frozen_of_row u w.heap.size 1 _ _ hX
          have z0 := cell_of_row u w.heap.size 0 _ _ _ hX
          have z1 := cell_of_row u w.heap.size 1 _ _ _ hX
          have ks := row2 (a := .string a) (b := .string b) hX
          have hO' := hO.kept ks.2 (by right; intro e; have := (hO.lt _ e).1; omega)
          have hR' : Rd ((u.setCell ⟨w.heap.size, 0, none⟩ (.string a)).setCell ⟨w.heap.size, 1, none⟩ (.string b)) (w.heap.size + 1) p' := rd_two hR hX (by omega)
          clear hd hb
          unfold Yield
          simp [go_sem, hc, hf, e0, e1, f0, f1, z0, z1]
          exact ⟨⟨p', by omega, hR', hG.trans (kept_store ks.2), ⟨a, b, ks.1, ha, hb'⟩, hO'⟩, kept_store ks.2⟩
        trivial
      intro env w' hW hF
      obtain ⟨p', hp, hR, hG, ⟨a, b, hX, ha, hb⟩, hO⟩ := hW
      have y2 : (env 8) = .slice (some ad) k d := hF 8 (of_decide_eq_true (by kernel_rfl))
      clear hF next
      have T4 : Below w.heap.size w w' := T3.trans (hG.below (by omega) (by omega) (by omega))
      have hr : List.range 29 = [0, 1, 2, 3, 4, 5, 6, 7, 8, 9, 10, 11, 12, 13, 14, 15, 16, 17, 18, 19, 20, 21, 22, 23, 24, 25, 26, 27, 28] := rfl
      unfold after
      simp only [List.size_toArray, List.length_cons, List.length_nil, Nat.reduceAdd, hr, List.map_cons, List.map_nil]
      simp [idxOf, List.findIdx?, List.findIdx?.go, y2]
      clear hr
      have v0 := cell_of_row w' w.heap.size 0 _ _ _ hX
      have v1 := cell_of_row w' w.heap.size 1 _ _ _ hX
      go_wp2
      exact bodyPost_ret (v := .tuple #[.slice (some ad) k d, hdA a b]) (by simp [results, Try.results40, go_sem, v0, v1]) rfl ⟨some ad, k, d, ys, a, b, rfl, own_lower hO (by omega), HOK.out, hk, ha, hb, T4⟩
    · have t1 : (q == 0) = false := by simpa using hq
      clear hq
      go_wp2_with fail
      refine (tail _ _ (by omega) R3 r3 T3 O3).mono ?_
      rintro e w4 ⟨a, b, rfl, ha, hb, r4, O4, T4⟩
      clear tail O3 R3 r3 T3
      have f0 := frozen_of_row w4 w.heap.size 0 _ _ r4
      have f1 := frozen_of_row w4 w.heap.size 1 _ _ r4
      have c0 := cell_of_row w4 w.heap.size 0 _ _ _ r4
      have c1 := cell_of_row w4 w.heap.size 1 _ _ _ r4
      go_wp2
      have ks := row2 (a := .string a) (b := .string b) r4
      have O5 := O4.kept ks.2 (by right; intro e; have := (O4.lt _ e).1; omega)
      have T5 := T4.grown ks.2 T4.size (by rintro _ ⟨rfl⟩; exact Nat.le_refl _)
      revert ks O5 T5
      generalize ((w4.setCell ⟨w.heap.size, 0, none⟩ (.string a)).setCell ⟨w.heap.size, 1, none⟩ (.string b)) = V
      intro ks O5 T5
      have v0 := cell_of_row V w.heap.size 0 _ _ _ ks.1
      have v1 := cell_of_row V w.heap.size 1 _ _ _ ks.1
      exact bodyPost_ret (v := .tuple #[.slice B k d, hdA a b]) (by simp [results, Try.results40, go_sem, v0, v1]) rfl ⟨B, k, d, ys, a, b, rfl, own_lower O5 (by omega), HOK.out, hk, by omega, by omega, T5⟩
  · have t0 : decide ((0 : Int) < (k : Int)) = false := by simp; omega
    go_wp2_with fail
    refine (tail _ _ (by omega) R2 r2 T2 O).mono ?_
    rintro e w4 ⟨a, b, rfl, ha, hb, r4, O4, T4⟩
    clear tail O R2 r2 T2
    have f0 := frozen_of_row w4 w.heap.size 0 _ _ r4
    have f1 := frozen_of_row w4 w.heap.size 1 _ _ r4
    have c0 := cell_of_row w4 w.heap.size 0 _ _ _ r4
    have c1 := cell_of_row w4 w.heap.size 1 _ _ _ r4
    go_wp2
    have ks := row2 (a := .string a) (b := .string b) r4
    have O5 := O4.kept ks.2 (by right; intro e; have := (O4.lt _ e).1; omega)
    have T5 := T4.grown ks.2 T4.size (by rintro _ ⟨rfl⟩; exact Nat.le_refl _)
    revert ks O5 T5
    generalize ((w4.setCell ⟨w.heap.size, 0, none⟩ (.string a)).setCell ⟨w.heap.size, 1, none⟩ (.string b)) = V
    intro ks O5 T5
    have v0 := cell_of_row V w.heap.size 0 _ _ _ ks.1
    have v1 := cell_of_row V w.heap.size 1 _ _ _ ks.1
    exact bodyPost_ret (v := .tuple #[.slice B k d, hdA a b]) (by simp [results, Try.results40, go_sem, v0, v1]) rfl ⟨B, k, d, ys, a, b, rfl, own_lower O5 (by omega), HOK.out, hk, by omega, by omega, T5⟩
end Go.Proofs.Ytndiphnadeeofaa
