/- The contracts of KeyOn, the program's and the reference's. -/
import Derived.Test.YtcpepjnmjiffcaaTurnsV
import Derived.Test.YtcpepjnmjiffcaaTurnMem
namespace Go.Proofs.Ytcpepjnmjiffcaa
open Go.RowKit
set_option linter.unusedVariables false
set_option linter.unusedSimpArgs false

abbrev Key := Int × Int × Int
/-- The key of the last turn of a list. -/
def lastK (l : List Tn) : Key × Bool := match l.getLast? with | some x => ((x.2.1, x.2.2.1, x.2.2.2), true) | none => ((0, 0, 0), false)
def onL (xs : List Tn) (day : Int) : List Tn := xs.filter fun x => decide (x.1 ≤ day)
@[irreducible] noncomputable def keyOnV (xs : List Tn) (day : Int) : Key × Bool := if tnV xs = true then lastK (onL xs day) else ((0, 0, 0), false)
theorem keyOn_no {xs : List Tn} {day : Int} (h : tnV xs = false) : keyOnV xs day = ((0, 0, 0), false) := by unfold keyOnV; rw [h]; rfl
theorem keyOn_yes {xs : List Tn} {day : Int} (h : tnV xs = true) : keyOnV xs day = lastK (onL xs day) := by unfold keyOnV; rw [if_pos h]
theorem lastK_snoc (l : List Tn) (x : Tn) : lastK (l ++ [x]) = ((x.2.1, x.2.2.1, x.2.2.2), true) := by unfold lastK; rw [List.getLast?_concat]
theorem onL_next {xs : List Tn} {k : Nat} {x : Tn} (day : Int) (h : xs[k]? = some x) : onL (xs.take (k + 1)) day = onL (xs.take k) day ++ (if x.1 ≤ day then [x] else []) := by
  unfold onL
  rw [List.take_add_one, h, List.filter_append]
  congr 1
  simp only [Option.toList_some, List.filter_cons, List.filter_nil]
  by_cases e : x.1 ≤ day <;> simp [e]
theorem on_yes {xs : List Tn} {k : Nat} {d a b e day : Int} (h : xs[k]? = some (d, a, b, e)) (hd : d ≤ day) : lastK (onL (xs.take (k + 1)) day) = ((a, b, e), true) := by
  rw [onL_next day h, if_pos hd, lastK_snoc]
theorem on_no {xs : List Tn} {k : Nat} {x : Tn} {day : Int} (h : xs[k]? = some x) (hd : ¬ x.1 ≤ day) : lastK (onL (xs.take (k + 1)) day) = lastK (onL (xs.take k) day) := by
  rw [onL_next day h, if_neg hd, List.append_nil]
/-- Nothing behind a place is in force: the list up to there tells. -/
theorem on_take {xs : List Tn} {k : Nat} {day : Int} (h : ∀ j x, k ≤ j → xs[j]? = some x → ¬ x.1 ≤ day) : onL xs day = onL (xs.take k) day := by
  have e : onL (xs.drop k) day = [] := by
    unfold onL
    rw [List.filter_eq_nil_iff]
    intro x hx
    obtain ⟨j, hj, rfl⟩ := List.getElem_of_mem hx
    have := h (k + j) _ (by omega) (by rw [← List.getElem?_drop, List.getElem?_eq_getElem hj])
    simpa using this
  conv => lhs; rw [← List.take_append_drop k xs]
  unfold onL at *
  rw [List.filter_append, e, List.append_nil]
/-- Three stores into a block of three cells. -/
theorem row3 {w : World} {r : Nat} {x y z a b e : Value} {T : TypeId} (hz : w.heap[r]? = some (.cells #[x, y, z] T (0, 0))) :
    (((w.setCell ⟨r, 0, none⟩ a).setCell ⟨r, 1, none⟩ b).setCell ⟨r, 2, none⟩ e).heap[r]? = some (.cells #[a, b, e] T (0, 0)) ∧ w.grownBy (((w.setCell ⟨r, 0, none⟩ a).setCell ⟨r, 1, none⟩ b).setCell ⟨r, 2, none⟩ e) (some r) := by
  have h1 := heap_setCell_same w r 0 _ T a hz
  have h2 := heap_setCell_same _ r 1 _ T b h1
  have h3 := heap_setCell_same _ r 2 _ T e h2
  refine ⟨by simpa using h3, rfl, rfl, rfl, by simp, fun k _ hk' => ?_⟩
  have hk : k ≠ r := fun e => hk' (by rw [e])
  rw [heap_setCell_other _ ⟨r, 2, none⟩ k _ hk, heap_setCell_other _ ⟨r, 1, none⟩ k _ hk, heap_setCell_other _ ⟨r, 0, none⟩ k _ hk]
theorem ret_kb {a b e a' b' e' : Int} {p q : Bool} (h : ((a, b, e), p) = ((a', b', e'), q)) : Ending.returned (.tuple #[keyA a b e, .bool p]) = .returned (.tuple #[keyA a' b' e', .bool q]) := by
  simp only [Prod.mk.injEq] at h
  obtain ⟨⟨rfl, rfl, rfl⟩, rfl⟩ := h; rfl
/-- A result that is a key and a yes or no. -/
def KeyRes (v : Key × Bool) (e : Ending) : Prop := e = .returned (.tuple #[keyA v.1.1 v.1.2.1 v.1.2.2, .bool v.2])
set_option maxHeartbeats 1000000 in
theorem keyOnI_any (A : Option Addr) (n c : Nat) (xs : List Tn) (day : Int) (w : World) (h : Sl w A n c 4 (tns xs)) :
    Calls Try.prog 17 #[.slice A n c, .int .i64 day] w fun e w' => KeyRes (keyOnV xs day) e ∧ Ext.of w w' := by
  have hlx : xs.length = n := h.count tnC_len (by omega)
  have hmx := h.max
  have hcx := h.cap
  unfold maxLen at hmx
  have hc0 : (w.alloc (.cells #[.int .i64 0, .int .i64 0, .int .i64 0] 30)).heap[w.heap.size]? = some (.cells #[.int .i64 0, .int .i64 0, .int .i64 0] 30 (0, 0)) := alloc_new' rfl
  have C := fun W (hW : Sl W A n c 4 (tns xs)) => tnI_any A n c xs W hW
  cases hv : tnV xs with
  | false =>
    have R := hid (keyOn_no (day := day) hv)
    rw [hv] at C
    clear hv hlx
    have h1 := h.alloc (.cells #[.int .i64 0, .int .i64 0, .int .i64 0] 30)
    go_enter Try.func17, Try.ntmps17
    go_wp2_with fail
    refine (C _ h1).mono ?_
    rintro e w1 ⟨rfl, x1⟩
    have g0 := (x1.block (Array.getElem?_eq_some_iff.1 hc0).1).trans hc0
    have hE := ((Ext.of.refl w).alloc _).trans x1
    have c0 := cell_of_row w1 w.heap.size 0 _ _ _ g0
    have c1 := cell_of_row w1 w.heap.size 1 _ _ _ g0
    have c2 := cell_of_row w1 w.heap.size 2 _ _ _ g0
    have f0 := frozen_of_row w1 w.heap.size 0 _ _ g0
    have f1 := frozen_of_row w1 w.heap.size 1 _ _ g0
    have f2 := frozen_of_row w1 w.heap.size 2 _ _ g0
    clear x1 C hc0 h1 h
    go_wp2
    have ks := row3 (a := .int .i64 0) (b := .int .i64 0) (e := .int .i64 0) g0
    have hE2 : Ext.of w (((w1.setCell ⟨w.heap.size, 0, none⟩ (.int .i64 0)).setCell ⟨w.heap.size, 1, none⟩ (.int .i64 0)).setCell ⟨w.heap.size, 2, none⟩ (.int .i64 0)) := Ext.of_below (hE.below.grown ks.2 hE.size (by rintro _ ⟨rfl⟩; exact Nat.le_refl _))
    revert ks hE2
    generalize (((w1.setCell ⟨w.heap.size, 0, none⟩ (.int .i64 0)).setCell ⟨w.heap.size, 1, none⟩ (.int .i64 0)).setCell ⟨w.heap.size, 2, none⟩ (.int .i64 0)) = V
    intro ks hE2
    have v0 := cell_of_row V w.heap.size 0 _ _ _ ks.1
    have v1 := cell_of_row V w.heap.size 1 _ _ _ ks.1
    have v2 := cell_of_row V w.heap.size 2 _ _ _ ks.1
    exact bodyPost_ret (v := .tuple #[keyA 0 0 0, .bool false]) (by simp [results, Try.results17, go_sem, v0, v1, v2]) rfl ⟨by unfold KeyRes; rw [R.out], hE2⟩
  | true =>
    have hn := (tnV_len hv).1
    rw [hlx] at hn
    have R := hid (keyOn_yes (day := day) hv)
    rw [hv] at C
    have HL := hid hlx
    clear hv hlx
    have h1 := h.alloc (.cells #[.int .i64 0, .int .i64 0, .int .i64 0] 30)
    go_enter Try.func17, Try.ntmps17
    go_wp2_with fail
    refine (C _ h1).mono ?_
    rintro e w1 ⟨rfl, x1⟩
    have g0 := (x1.block (Array.getElem?_eq_some_iff.1 hc0).1).trans hc0
    have hE := ((Ext.of.refl w).alloc _).trans x1
    have c0 := cell_of_row w1 w.heap.size 0 _ _ _ g0
    have c1 := cell_of_row w1 w.heap.size 1 _ _ _ g0
    have c2 := cell_of_row w1 w.heap.size 2 _ _ _ g0
    have f0 := frozen_of_row w1 w.heap.size 0 _ _ g0
    have f1 := frozen_of_row w1 w.heap.size 1 _ _ g0
    have f2 := frozen_of_row w1 w.heap.size 2 _ _ g0
    have S1 := h.ext hE
    clear x1 C hc0 h1 h
    go_wp2
    go_loopw [6] (fun i wr => ∃ (k : Nat), k ≤ n ∧ i = .int .i64 ((k : Int) - 1) ∧ wr = w1 ∧ Hid (∀ j x, k ≤ j → xs[j]? = some x → ¬ x.1 ≤ day)) (fun i _ => (intOf i + 1).toNat)
    case atStart => exact ⟨n, Nat.le_refl _, rfl, rfl, fun j x hj hx => by have := (List.getElem?_eq_some_iff.1 hx).1; have := HL.out; omega⟩
    case round =>
      obtain ⟨k, hk, rfl, rfl, hno⟩ := hrel
      match k, hk, hno with
      | 0, hk, hno =>
        have N := hid (show lastK (onL xs day) = ((0, 0, 0), false) by rw [on_take (k := 0) (fun j x hj hx => hno.out j x hj hx)]; rfl)
        clear hno S1
        rw [show ((0 : Nat) : Int) - 1 = -1 by omega]
        go_wp2
        have ks := row3 (a := .int .i64 0) (b := .int .i64 0) (e := .int .i64 0) g0
        have hE2 : Ext.of w (((wr.setCell ⟨w.heap.size, 0, none⟩ (.int .i64 0)).setCell ⟨w.heap.size, 1, none⟩ (.int .i64 0)).setCell ⟨w.heap.size, 2, none⟩ (.int .i64 0)) := Ext.of_below (hE.below.grown ks.2 hE.size (by rintro _ ⟨rfl⟩; exact Nat.le_refl _))
        revert ks hE2
        generalize (((wr.setCell ⟨w.heap.size, 0, none⟩ (.int .i64 0)).setCell ⟨w.heap.size, 1, none⟩ (.int .i64 0)).setCell ⟨w.heap.size, 2, none⟩ (.int .i64 0)) = V
        intro ks hE2
        have v0 := cell_of_row V w.heap.size 0 _ _ _ ks.1
        have v1 := cell_of_row V w.heap.size 1 _ _ _ ks.1
        have v2 := cell_of_row V w.heap.size 2 _ _ _ ks.1
        exact bodyPost_ret (v := .tuple #[keyA 0 0 0, .bool false]) (by simp [results, Try.results17, go_sem, v0, v1, v2]) rfl ⟨by unfold KeyRes; rw [R.out, N.out], hE2⟩
      | j + 1, hk, hno =>
        rw [show ((j + 1 : Nat) : Int) - 1 = (j : Int) by omega]
        obtain ⟨ad, d, a, b, e, rfl, hab, p0, p1, p2, p3⟩ := S1.tn (j := j) (by omega)
        have p2 : wr.cell? ⟨(ad.add (j * 4)).block, (ad.add (j * 4)).off + 1 + 1, none⟩ = _ := p2
        have p3 : wr.cell? ⟨(ad.add (j * 4)).block, (ad.add (j * 4)).off + 1 + 2, none⟩ = _ := p3
        by_cases hd : d ≤ day
        · have N := hid (show lastK (onL xs day) = ((a, b, e), true) by rw [on_take (k := j + 1) (fun i x hi hx => hno.out i x hi hx)]; exact on_yes hab hd)
          clear hno hab S1
          go_wp2
          have ks := row3 (a := .int .i64 a) (b := .int .i64 b) (e := .int .i64 e) g0
          have hE2 : Ext.of w (((wr.setCell ⟨w.heap.size, 0, none⟩ (.int .i64 a)).setCell ⟨w.heap.size, 1, none⟩ (.int .i64 b)).setCell ⟨w.heap.size, 2, none⟩ (.int .i64 e)) := Ext.of_below (hE.below.grown ks.2 hE.size (by rintro _ ⟨rfl⟩; exact Nat.le_refl _))
          revert ks hE2
          generalize (((wr.setCell ⟨w.heap.size, 0, none⟩ (.int .i64 a)).setCell ⟨w.heap.size, 1, none⟩ (.int .i64 b)).setCell ⟨w.heap.size, 2, none⟩ (.int .i64 e)) = V
          intro ks hE2
          have v0 := cell_of_row V w.heap.size 0 _ _ _ ks.1
          have v1 := cell_of_row V w.heap.size 1 _ _ _ ks.1
          have v2 := cell_of_row V w.heap.size 2 _ _ _ ks.1
          exact bodyPost_ret (v := .tuple #[keyA a b e, .bool true]) (by simp [results, Try.results17, go_sem, v0, v1, v2]) rfl ⟨by unfold KeyRes; rw [R.out, N.out], hE2⟩
        · have N := hid (show ∀ i x, j ≤ i → xs[i]? = some x → ¬ x.1 ≤ day from fun i x hi hx => by
            by_cases ei : i = j
            · subst ei; rw [hab] at hx; injection hx with hx; subst hx; exact hd
            · exact hno.out i x (by omega) hx)
          clear hno hab
          go_wp2
          go_roundw
          case rel => exact ⟨j, by omega, rfl, trivial, N⟩
          case measure => simp [intOf]
set_option maxHeartbeats 2000000 in
theorem keyOnS_any (A : Option Addr) (n c : Nat) (xs : List Tn) (day : Int) (w : World) (h : Sl w A n c 4 (tns xs)) :
    Calls Try.prog 16 #[.slice A n c, .int .i64 day] w fun e w' => KeyRes (keyOnV xs day) e ∧ Ext.of w w' := by
  have hlx : xs.length = n := h.count tnC_len (by omega)
  have hmx := h.max
  have hcx := h.cap
  unfold maxLen at hmx
  have hR : ∃ (V : Nat → Key × Bool), V 0 = ((0, 0, 0), false) ∧ (tnV xs = true → ∀ k, V k = lastK (onL (xs.take k) day)) ∧ (tnV xs = false → ∀ k, V k = ((0, 0, 0), false)) := by
    cases hv : tnV xs with
    | false => exact ⟨fun _ => ((0, 0, 0), false), rfl, (fun h => by cases h), fun _ _ => rfl⟩
    | true => exact ⟨fun k => lastK (onL (xs.take k) day), rfl, fun _ _ => rfl, fun h => by cases h⟩
  obtain ⟨V, hV0, hVt, hVf⟩ := hR
  have C := fun W (hW : Sl W A n c 4 (tns xs)) => tnS_any A n c xs W hW
  have hA : ((w.alloc (.cells #[.int .i64 0, .int .i64 0, .int .i64 0] 30)).alloc (.cells #[.int .i64 0, .int .i64 0, .int .i64 0] 30)).heap[w.heap.size]? = some (.cells #[.int .i64 0, .int .i64 0, .int .i64 0] 30 (0, 0)) := alloc_old (alloc_new' rfl)
  have hB : ((w.alloc (.cells #[.int .i64 0, .int .i64 0, .int .i64 0] 30)).alloc (.cells #[.int .i64 0, .int .i64 0, .int .i64 0] 30)).heap[w.heap.size + 1]? = some (.cells #[.int .i64 0, .int .i64 0, .int .i64 0] 30 (0, 0)) := alloc_new' (by simp)
  have hE : Ext.of w ((w.alloc (.cells #[.int .i64 0, .int .i64 0, .int .i64 0] 30)).alloc (.cells #[.int .i64 0, .int .i64 0, .int .i64 0] 30)) := ((Ext.of.refl _).alloc _).alloc _
  go_enter Try.func16, Try.ntmps16
  go_wp2
  generalize hW : (w.alloc (.cells #[.int .i64 0, .int .i64 0, .int .i64 0] 30)).alloc (.cells #[.int .i64 0, .int .i64 0, .int .i64 0] 30) = W at *
  clear hW
  go_loopw [7, 8] (fun f i wr => ∃ (k : Nat) (a b e : Int) (p : Bool), k ≤ n ∧ i = .int .i64 k ∧ f = .bool p ∧ Hid (V k = ((a, b, e), p)) ∧ (k = 0 ∨ tnV xs = true) ∧ wr.heap[w.heap.size]? = some (.cells #[.int .i64 0, .int .i64 0, .int .i64 0] 30 (0, 0)) ∧ wr.heap[w.heap.size + 1]? = some (.cells #[.int .i64 a, .int .i64 b, .int .i64 e] 30 (0, 0)) ∧ Ext.of w wr) (fun _ i _ => n - (intOf i).toNat)
  case atStart => exact ⟨0, 0, 0, 0, false, Nat.zero_le _, rfl, rfl, hV0, .inl rfl, hA, hB, hE⟩
  case round =>
    obtain ⟨k, a, b, e, p, hk, rfl, rfl, hv, hkv, g0, g1, hX⟩ := hrel
    by_cases hlt : k < n
    · cases hV : tnV xs with
      | false =>
        have hk0 : k = 0 := by rcases hkv with h1 | h1; exact h1; rw [hV] at h1; cases h1
        have R := hid (show keyOnV xs day = ((a, b, e), p) by rw [keyOn_no hV, ← hv.out, hk0, hV0])
        rw [hV] at C
        clear hV hkv hVt hVf hV0 hk0 hA hB
        go_wp2_with fail
        refine (C _ (h.ext hX)).mono ?_
        rintro e1 w1 ⟨rfl, x1⟩
        have h0 := (x1.block (Array.getElem?_eq_some_iff.1 g0).1).trans g0
        have h1 := (x1.block (Array.getElem?_eq_some_iff.1 g1).1).trans g1
        have hX1 := hX.trans x1
        have c0 := cell_of_row w1 w.heap.size 0 _ _ _ h0
        have c1 := cell_of_row w1 w.heap.size 1 _ _ _ h0
        have c2 := cell_of_row w1 w.heap.size 2 _ _ _ h0
        have f0 := frozen_of_row w1 w.heap.size 0 _ _ h0
        have f1 := frozen_of_row w1 w.heap.size 1 _ _ h0
        have f2 := frozen_of_row w1 w.heap.size 2 _ _ h0
        have d0 := cell_of_row w1 (w.heap.size + 1) 0 _ _ _ h1
        have d1 := cell_of_row w1 (w.heap.size + 1) 1 _ _ _ h1
        have d2 := cell_of_row w1 (w.heap.size + 1) 2 _ _ _ h1
        have e0 := frozen_of_row w1 (w.heap.size + 1) 0 _ _ h1
        have e1 := frozen_of_row w1 (w.heap.size + 1) 1 _ _ h1
        have e2 := frozen_of_row w1 (w.heap.size + 1) 2 _ _ h1
        clear x1 g0 g1 hX C
        go_wp2
        have ks := row3 (a := .int .i64 a) (b := .int .i64 b) (e := .int .i64 e) h0
        have hE2 : Ext.of w (((w1.setCell ⟨w.heap.size, 0, none⟩ (.int .i64 a)).setCell ⟨w.heap.size, 1, none⟩ (.int .i64 b)).setCell ⟨w.heap.size, 2, none⟩ (.int .i64 e)) := Ext.of_below (hX1.below.grown ks.2 hX1.size (by rintro _ ⟨rfl⟩; exact Nat.le_refl _))
        revert ks hE2
        generalize (((w1.setCell ⟨w.heap.size, 0, none⟩ (.int .i64 a)).setCell ⟨w.heap.size, 1, none⟩ (.int .i64 b)).setCell ⟨w.heap.size, 2, none⟩ (.int .i64 e)) = U
        intro ks hE2
        have v0 := cell_of_row U w.heap.size 0 _ _ _ ks.1
        have v1 := cell_of_row U w.heap.size 1 _ _ _ ks.1
        have v2 := cell_of_row U w.heap.size 2 _ _ _ ks.1
        exact bodyPost_ret (v := .tuple #[keyA a b e, .bool p]) (by simp [results, Try.results16, go_sem, v0, v1, v2]) rfl ⟨by unfold KeyRes; rw [R.out], hE2⟩
      | true =>
        rw [hV] at C
        obtain ⟨hlen, _⟩ := tnV_len hV
        have hVk := hid (hVt hV)
        clear hVt hVf hV0 hkv hA hB hlen
        go_wp2_with fail
        refine (C _ (h.ext hX)).mono ?_
        rintro e1 w1 ⟨rfl, x1⟩
        have h0 := (x1.block (Array.getElem?_eq_some_iff.1 g0).1).trans g0
        have h1 := (x1.block (Array.getElem?_eq_some_iff.1 g1).1).trans g1
        have hX1 := hX.trans x1
        clear x1 g0 g1 hX C
        obtain ⟨ad, d, a', b', e', rfl, hab, p0, p1, p2, p3⟩ := (h.ext hX1).tn hlt
        have p2 : w1.cell? ⟨(ad.add (k * 4)).block, (ad.add (k * 4)).off + 1 + 1, none⟩ = _ := p2
        have p3 : w1.cell? ⟨(ad.add (k * 4)).block, (ad.add (k * 4)).off + 1 + 2, none⟩ = _ := p3
        have c0 := cell_of_row w1 w.heap.size 0 _ _ _ h0
        have c1 := cell_of_row w1 w.heap.size 1 _ _ _ h0
        have c2 := cell_of_row w1 w.heap.size 2 _ _ _ h0
        have f0 := frozen_of_row w1 w.heap.size 0 _ _ h0
        have f1 := frozen_of_row w1 w.heap.size 1 _ _ h0
        have f2 := frozen_of_row w1 w.heap.size 2 _ _ h0
        have d0 := cell_of_row w1 (w.heap.size + 1) 0 _ _ _ h1
        have d1 := cell_of_row w1 (w.heap.size + 1) 1 _ _ _ h1
        have d2 := cell_of_row w1 (w.heap.size + 1) 2 _ _ _ h1
        have e0 := frozen_of_row w1 (w.heap.size + 1) 0 _ _ h1
        have e1 := frozen_of_row w1 (w.heap.size + 1) 1 _ _ h1
        have e2 := frozen_of_row w1 (w.heap.size + 1) 2 _ _ h1
        by_cases hd : d ≤ day
        · have N := hid (show V (k + 1) = ((a', b', e'), true) by rw [hVk.out]; exact on_yes hab hd)
          clear hab hv
          go_wp2
          have ks := row3 (a := .int .i64 a') (b := .int .i64 b') (e := .int .i64 e') h1
          go_roundw
          case rel => exact ⟨k + 1, a', b', e', true, by omega, by go_num, rfl, N, .inr (by first | exact hV | trivial), (ks.2.block _ (Array.getElem?_eq_some_iff.1 h0).1 (by simp)).trans h0, ks.1, Ext.of_below (hX1.below.grown ks.2 hX1.size (by rintro _ ⟨rfl⟩; exact Nat.le_succ _))⟩
          case measure => simp [intOf]; omega
        · have N := hid (show V (k + 1) = ((a, b, e), p) by rw [← hv.out, hVk.out, hVk.out]; exact on_no hab hd)
          clear hab hv
          go_wp2
          go_roundw
          case rel => exact ⟨k + 1, a, b, e, p, by omega, by go_num, rfl, N, .inr (by first | exact hV | trivial), h0, h1, hX1⟩
          case measure => simp [intOf]; omega
    · obtain rfl : k = n := by omega
      have R := hid (show keyOnV xs day = ((a, b, e), p) by
        cases hV : tnV xs with
        | false =>
          have hk0 : k = 0 := by rcases hkv with h1 | h1; exact h1; rw [hV] at h1; cases h1
          rw [keyOn_no hV, ← hv.out, hk0, hV0]
        | true => rw [keyOn_yes hV, ← hv.out, hVt hV, List.take_of_length_le (by omega)])
      have c0 := cell_of_row wr w.heap.size 0 _ _ _ g0
      have c1 := cell_of_row wr w.heap.size 1 _ _ _ g0
      have c2 := cell_of_row wr w.heap.size 2 _ _ _ g0
      have f0 := frozen_of_row wr w.heap.size 0 _ _ g0
      have f1 := frozen_of_row wr w.heap.size 1 _ _ g0
      have f2 := frozen_of_row wr w.heap.size 2 _ _ g0
      have d0 := cell_of_row wr (w.heap.size + 1) 0 _ _ _ g1
      have d1 := cell_of_row wr (w.heap.size + 1) 1 _ _ _ g1
      have d2 := cell_of_row wr (w.heap.size + 1) 2 _ _ _ g1
      have e0 := frozen_of_row wr (w.heap.size + 1) 0 _ _ g1
      have e1 := frozen_of_row wr (w.heap.size + 1) 1 _ _ g1
      have e2 := frozen_of_row wr (w.heap.size + 1) 2 _ _ g1
      clear hkv hVt hVf hV0 C hA hB hv
      go_wp2
      have ks := row3 (a := .int .i64 a) (b := .int .i64 b) (e := .int .i64 e) g0
      have hE2 : Ext.of w (((wr.setCell ⟨w.heap.size, 0, none⟩ (.int .i64 a)).setCell ⟨w.heap.size, 1, none⟩ (.int .i64 b)).setCell ⟨w.heap.size, 2, none⟩ (.int .i64 e)) := Ext.of_below (hX.below.grown ks.2 hX.size (by rintro _ ⟨rfl⟩; exact Nat.le_refl _))
      revert ks hE2
      generalize (((wr.setCell ⟨w.heap.size, 0, none⟩ (.int .i64 a)).setCell ⟨w.heap.size, 1, none⟩ (.int .i64 b)).setCell ⟨w.heap.size, 2, none⟩ (.int .i64 e)) = U
      intro ks hE2
      have v0 := cell_of_row U w.heap.size 0 _ _ _ ks.1
      have v1 := cell_of_row U w.heap.size 1 _ _ _ ks.1
      have v2 := cell_of_row U w.heap.size 2 _ _ _ ks.1
      exact bodyPost_ret (v := .tuple #[keyA a b e, .bool p]) (by simp [results, Try.results16, go_sem, v0, v1, v2]) rfl ⟨by unfold KeyRes; rw [R.out], hE2⟩
end Go.Proofs.Ytcpepjnmjiffcaa
