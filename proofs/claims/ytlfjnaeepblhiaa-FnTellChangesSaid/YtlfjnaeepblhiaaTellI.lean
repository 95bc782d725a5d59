/- The contract of TellChanges, the program's. -/
import Derived.Test.YtlfjnaeepblhiaaGoneI
import Derived.Test.YtlfjnaeepblhiaaTellV
import Derived.Test.YtlfjnaeepblhiaaActivityMem
namespace Go.Proofs.Ytlfjnaeepblhiaa
open Go.RowKit
set_option linter.unusedVariables false
set_option linter.unusedSimpArgs false
theorem set_here {w : World} {g : Nat} {v u : Value} {T : TypeId} (h : w.heap[g]? = some (.cells #[v] T (0, 0))) : (w.setCell ⟨g, 0, none⟩ u).heap[g]? = some (.cells #[u] T (0, 0)) := by
  have := heap_setCell_same w g 0 #[v] T u h
  simpa using this
theorem set_grown (w : World) (g : Nat) (u : Value) : w.grownBy (w.setCell ⟨g, 0, none⟩ u) (some g) :=
  ⟨rfl, rfl, rfl, by simp, fun k _ hk => heap_setCell_other _ ⟨g, 0, none⟩ k _ (fun e => hk (by rw [e]))⟩
/-- What one call of the closure does: the list in block gl grows by one activity. -/
structure Told1 (gl base : Nat) (C : Option Addr) (q e : Nat) (zs : List Ac) (x : Ac) (w w' : World) : Prop where
  out : ∃ C' e' u, w'.heap[gl]? = some (.cells #[.slice C' (q + 1) e'] 23 (0, 0)) ∧ w'.ownsRow base 29 5 (.slice C' (q + 1) e') (q + 1) (acs (zs ++ [x])) ∧ w.grownBy u (Value.slice C q e).ownBlock ∧ u.grownBy w' (some gl) ∧ ∀ k, (Value.slice C' (q + 1) e').ownBlock = some k → (Value.slice C q e).ownBlock = some k ∨ w.heap.size ≤ k
set_option maxHeartbeats 2000000 in
theorem tell_any (gl gn gw base : Nat) (kd : Int) (key : ByteArray) (m : Int) (a b : ByteArray) (C : Option Addr) (q e : Nat) (zs : List Ac) (w : World)
    (hl : w.heap[gl]? = some (.cells #[.slice C q e] 23 (0, 0))) (hn : w.heap[gn]? = some (.cells #[.int .i64 m] 3 (0, 0))) (hw : w.heap[gw]? = some (.cells #[.string a, .string b] 27 (0, 0)))
    (O : w.ownsRow base 29 5 (.slice C q e) q (acs zs)) (hg : gl < base) (hb : base ≤ w.heap.size) (h1 : 0 ≤ m) (h2 : m ≤ 1000000) (hq : q ≤ 100) :
    Calls Try.prog 60 #[.int .i64 kd, .string key, .pointer (some ⟨gl, 0, none⟩), .pointer (some ⟨gn, 0, none⟩), .pointer (some ⟨gw, 0, none⟩)] w fun e' w' => e' = .returned (.tuple #[]) ∧ Told1 gl base C q e zs (kd, m + q, a, b, key) w w' := by
  have dl := cell_of_row w gl 0 _ _ _ hl
  have dn := cell_of_row w gn 0 _ _ _ hn
  have d0 := cell_of_row w gw 0 _ _ _ hw
  have d1 := cell_of_row w gw 1 _ _ _ hw
  have HG := hid (fun k (e' : (Value.slice C q e).ownBlock = some k) => (O.lt k e').1)
  clear hn hw
  go_enter Try.func60, Try.ntmps60
  go_wp2_with (at_builtin; refine wpList_append_see _ rfl (.tmp 7) (.tmp 16) eltActivity rfl base _ q (acs zs) rfl (O.alloc _) (some ⟨w.heap.size, 0, none⟩) 1 1 (acC (kd, m + q, a, b, key)) rfl (see_new _ (acC (kd, m + q, a, b, key)) _ _ rfl) (by simp) rfl (acC_one _) (by unfold maxLen; omega) (by omega) (Nat.le_trans hb (by simp)) ?_; intro v4 w4 O4 G4 H4; rw [show acs zs ++ acC (kd, m + q, a, b, key) = acs (zs ++ [(kd, m + q, a, b, key)]) by simp [flat]] at O4; obtain ⟨B4, d4, rfl, _⟩ := own_form O4; have hl4 := (G4.block gl (by have := (Array.getElem?_eq_some_iff.1 hl).1; simp; omega) (fun e' => by have := HG.out gl e'.symm; omega)).trans (alloc_old (o := .cells (acC (kd, m + q, a, b, key)).toArray 29) hl); have f0 := frozen_of_row w4 gl 0 _ _ hl4; have y0 := cell_of_row w4 gl 0 _ _ _ hl4; clear dl dn d0 d1)
  have hne : (Value.slice B4 (q + 1) d4).ownBlock ≠ some gl := fun e' => by have := (O4.lt gl e').1; omega
  have O5 := O4.kept (set_grown w4 gl (.slice B4 (q + 1) d4)) (by
    cases e' : (Value.slice B4 (q + 1) d4).ownBlock with
    | none => exact .inl rfl
    | some j => exact .inr fun e2 => hne (e'.trans e2))
  have hl5 := set_here (u := .slice B4 (q + 1) d4) hl4
  have G5 := set_grown w4 gl (.slice B4 (q + 1) d4)
  have G4' := (World.grownBy_alloc w (.cells (acC (kd, m + q, a, b, key)).toArray 29) _).trans G4
  have H5 : ∀ k, (Value.slice B4 (q + 1) d4).ownBlock = some k → (Value.slice C q e).ownBlock = some k ∨ w.heap.size ≤ k := fun k e' => by
    rcases H4 with e2 | e2
    · exact .inl (e2.symm.trans e')
    · rw [e2] at e'; injection e' with e'; right; simp at e'; omega
  clear O O4 G4 H4 hl4 f0 y0 hne
  go_end0
  exact ⟨rfl, ⟨B4, d4, w4, hl5, O5, G4', G5, H5⟩⟩

structure TI (gl gn gw : Nat) (m : Int) (a b : ByteArray) (ts : List Told) (F : Value) (w W : World) : Prop where
  num : W.heap[gn]? = some (.cells #[.int .i64 m] 3 (0, 0))
  who : W.heap[gw]? = some (.cells #[.string a, .string b] 27 (0, 0))
  list : ∃ C e, W.heap[gl]? = some (.cells #[.slice C ts.length e] 23 (0, 0)) ∧ W.ownsRow (gl + 1) 29 5 (.slice C ts.length e) ts.length (acs (numT m a b 0 ts)) ∧ ∀ k, (Value.slice C ts.length e).ownBlock = some k → F.ownBlock ≠ some k
  below : Below w.heap.size w W
section
variable {gl gn gw : Nat} {m : Int} {a b : ByteArray} {ts : List Told} {F : Value} {w W W' : World}
theorem TI.lt (h : TI gl gn gw m a b ts F w W) : gl < W.heap.size := by obtain ⟨C, e, hl, _⟩ := h.list; exact (Array.getElem?_eq_some_iff.1 hl).1
theorem TI.next (h : TI gl gn gw m a b ts F w W) (hB : Below W.heap.size W W') : TI gl gn gw m a b ts F w W' := by
  obtain ⟨C, e, hl, O, hs⟩ := h.list
  exact ⟨(hB.block _ (Array.getElem?_eq_some_iff.1 h.num).1).trans h.num, (hB.block _ (Array.getElem?_eq_some_iff.1 h.who).1).trans h.who,
    ⟨C, e, (hB.block _ (Array.getElem?_eq_some_iff.1 hl).1).trans hl, own_below O hB, hs⟩, below_next h.below hB⟩
theorem TI.fresh {F' : Value} (h : TI gl gn gw m a b ts F w W) (hF : ∀ k, F'.ownBlock = some k → W.heap.size ≤ k) : TI gl gn gw m a b ts F' w W := by
  obtain ⟨C, e, hl, O, hs⟩ := h.list
  exact ⟨h.num, h.who, ⟨C, e, hl, O, fun k e1 e2 => by have := (O.lt k e1).2; have := hF k e2; omega⟩, h.below⟩
theorem TI.told {C : Option Addr} {e : Nat} {t : Told} (h : TI gl gn gw m a b ts F w W) (O : W.ownsRow (gl + 1) 29 5 (.slice C ts.length e) ts.length (acs (numT m a b 0 ts))) (hs : ∀ k, (Value.slice C ts.length e).ownBlock = some k → F.ownBlock ≠ some k)
    (T : Told1 gl (gl + 1) C ts.length e (numT m a b 0 ts) (t.1, m + ts.length, a, b, t.2) W W') (hF : ∀ k, F.ownBlock = some k → k < W.heap.size) (hn : gn < gl) (hw : gw < gl) (hN : w.heap.size ≤ gl) : TI gl gn gw m a b (ts ++ [t]) F w W' := by
  obtain ⟨C', e', u, hl', O', G1, G2, H⟩ := T.out
  have hlow : ∀ k, k < gl → W'.heap[k]? = W.heap[k]? := fun k hk => by
    have hkW : k < W.heap.size := by have := h.lt; omega
    exact (G2.block k (Nat.lt_of_lt_of_le hkW G1.size) (fun e1 => by injection e1 with e1; omega)).trans (G1.block k hkW (fun e1 => by have := (O.lt k e1.symm).1; omega))
  have hlen : (ts ++ [t]).length = ts.length + 1 := by simp
  refine ⟨(hlow _ hn).trans h.num, (hlow _ hw).trans h.who, ⟨C', e', by rw [hlen]; exact hl', ?_, fun k e1 e2 => ?_⟩, ?_⟩
  · rw [hlen, numT_snoc]; exact O'
  · rw [hlen] at e1
    rcases H k e1 with h1 | h1
    · exact hs k h1 e2
    · have := hF k e2; omega
  · have hz := h.below.size
    exact (h.below.grown G1 hz (fun q hq => by have := (O.lt q hq).1; omega)).grown G2 (Nat.le_trans hz G1.size) (fun q hq => by injection hq with hq; omega)
theorem told_own {C : Option Addr} {q e base : Nat} {zs : List Ac} {x : Ac} {T : TypeId} {size n : Nat} {vs : List Value} (h : W.ownsRow (gl + 1) T size F n vs) (T1 : Told1 gl base C q e zs x W W') (hs : ∀ k, (Value.slice C q e).ownBlock = some k → F.ownBlock ≠ some k) : W'.ownsRow (gl + 1) T size F n vs := by
  obtain ⟨C', e', u, _, _, G1, G2, _⟩ := T1.out
  refine (h.kept G1 ?_).kept G2 ?_
  · cases e1 : F.ownBlock with
    | none => exact .inl rfl
    | some j => exact .inr fun e2 => hs j e2.symm e1
  · cases e1 : F.ownBlock with
    | none => exact .inl rfl
    | some j => exact .inr fun e2 => by injection e2 with e2; have := (h.lt j e1).1; omega
end
set_option maxRecDepth 4000 in
set_option maxHeartbeats 8000000 in
theorem tellI_any (a b : ByteArray) (m : Int) (A : Option Addr) (n c : Nat) (xs : List Im) (B : Option Addr) (p d : Nat) (ys : List Im) (w : World) (ha : a.size ≤ 9223372036854775807) (hb : b.size ≤ 9223372036854775807) (h : Sl w A n c 4 (ims xs)) (hx : imOk xs) (h' : Sl w B p d 4 (ims ys)) (hy : imOk ys) :
    Calls Try.prog 29 #[hdA a b, .int .i64 m, .slice A n c, .slice B p d] w fun e w' => ∃ C q e', e = .returned (.slice C q e') ∧ w'.ownsRow w.heap.size 29 5 (.slice C q e') q (acs (tellV a b m xs ys)) ∧ Below w.heap.size w w' := by
  have C0 := fun W => hvalI_any a b W ha hb
  have C1 := fun W (S : Sl W A n c 4 (ims xs)) => fdI_any A n c xs W S hx
  have C2 := fun W (S : Sl W B p d 4 (ims ys)) => fdI_any B p d ys W S hy
  have K1 := fun W (S : Sl W A n c 4 (ims xs)) (S' : Sl W B p d 4 (ims ys)) => newI_any A n c xs B p d ys W S hx S' hy
  have K2 := fun W (S : Sl W A n c 4 (ims xs)) (S' : Sl W B p d 4 (ims ys)) => chI_any A n c xs B p d ys W S hx S' hy
  have K3 := fun W (S : Sl W A n c 4 (ims xs)) (S' : Sl W B p d 4 (ims ys)) => goneI_any A n c xs B p d ys W S hx S' hy
  clear ha hb hx hy
  have q1 : ((w.alloc (.cells #[.string a, .string b] 27)).alloc (.cells #[.int .i64 m] 3)).heap[w.heap.size]? = some (.cells #[.string a, .string b] 27 (0, 0)) := alloc_old (alloc_new' rfl)
  have q2 : ((w.alloc (.cells #[.string a, .string b] 27)).alloc (.cells #[.int .i64 m] 3)).heap[w.heap.size + 1]? = some (.cells #[.int .i64 m] 3 (0, 0)) := alloc_new' (by simp)
  have x0 : Ext.of w ((w.alloc (.cells #[.string a, .string b] 27)).alloc (.cells #[.int .i64 m] 3)) := ((Ext.of.refl _).alloc _).alloc _
  have c0 := cell_of_row _ w.heap.size 0 _ _ _ q1
  have c1 := cell_of_row _ w.heap.size 1 _ _ _ q1
  go_enter Try.func29, Try.ntmps29
  go_wp2_with fail
  clear c0 c1
  generalize hW0 : (w.alloc (.cells #[.string a, .string b] 27)).alloc (.cells #[.int .i64 m] 3) = W0 at *
  clear hW0
  refine (C0 W0).mono ?_
  rintro e w1 ⟨rfl, x1⟩
  replace q1 := (x1.block (Array.getElem?_eq_some_iff.1 q1).1).trans q1
  replace q2 := (x1.block (Array.getElem?_eq_some_iff.1 q2).1).trans q2
  replace x0 := x0.trans x1
  clear x1 C0
  have dn := cell_of_row _ (w.heap.size + 1) 0 _ _ _ q2
  cases hv : hvalV a b with
  | false =>
    have R := hid (tell_no1 (m := m) (xs := xs) (ys := ys) hv)
    clear hv
    go_wp2_with fail
    go_ret
    exact ⟨none, 0, 0, rfl, by rw [R.out]; exact World.ownsRow_nil _ _ _ _, x0.below⟩
  | true =>
    cases hm : inB m 0 1000000 with
    | false =>
      have R := hid (tell_no2 (a := a) (b := b) (xs := xs) (ys := ys) hm)
      clear hv
      go_wp2_with (go_at_call 56; refine (within_any _ _ _ _).mono ?_; rintro e' w' ⟨rfl, rfl⟩)
      go_ret
      exact ⟨none, 0, 0, rfl, by rw [R.out]; exact World.ownsRow_nil _ _ _ _, x0.below⟩
    | true =>
      have HV := hid hv
      have HM := hid hm
      clear hv
      go_wp2_with (first | (go_at_call 56; refine (within_any _ _ _ _).mono ?_; rintro e' w' ⟨rfl, rfl⟩) | fail)
      refine (C1 w1 (h.ext x0)).mono ?_
      rintro e w2 ⟨rfl, x2⟩
      replace q1 := (x2.block (Array.getElem?_eq_some_iff.1 q1).1).trans q1
      replace q2 := (x2.block (Array.getElem?_eq_some_iff.1 q2).1).trans q2
      replace x0 := x0.trans x2
      clear x2 C1 dn hm
      cases hv : fdV xs with
      | false =>
        have R := hid (tell_no3 (a := a) (b := b) (m := m) (ys := ys) hv)
        clear hv
        go_wp2_with fail
        go_ret
        exact ⟨none, 0, 0, rfl, by rw [R.out]; exact World.ownsRow_nil _ _ _ _, x0.below⟩
      | true =>
        have HX := hid hv
        clear hv
        go_wp2_with fail
        refine (C2 w2 (h'.ext x0)).mono ?_
        rintro e w3 ⟨rfl, x3⟩
        replace q1 := (x3.block (Array.getElem?_eq_some_iff.1 q1).1).trans q1
        replace q2 := (x3.block (Array.getElem?_eq_some_iff.1 q2).1).trans q2
        replace x0 := x0.trans x3
        clear x3 C2
        cases hv : fdV ys with
        | false =>
          have R := hid (tell_no4 (a := a) (b := b) (m := m) (xs := xs) hv)
          clear hv
          go_wp2_with fail
          go_ret
          exact ⟨none, 0, 0, rfl, by rw [R.out]; exact World.ownsRow_nil _ _ _ _, x0.below⟩
        | true =>
          have R := hid (tell_yes (xs := xs) (ys := ys) HV.out HM.out HX.out hv)
          have HM2 : 0 ≤ m ∧ m ≤ 1000000 := by have := HM.out; unfold inB at this; simpa using this
          obtain ⟨hm0, hm1⟩ := HM2
          clear hv HV HM HX
          have T : TI w3.heap.size (w.heap.size + 1) w.heap.size m a b [] (.slice none 0 0) w (w3.alloc (.cells #[.slice none 0 0] 23)) :=
            ⟨alloc_old q2, alloc_old q1, ⟨none, 0, alloc_new' rfl, World.ownsRow_nil _ _ _ _, fun k e => by simp [Value.ownBlock] at e⟩, (x0.alloc _).below⟩
          have hgn : w.heap.size + 1 < w3.heap.size := (Array.getElem?_eq_some_iff.1 q2).1
          clear q1 q2 x0
          go_wp2_with fail
          generalize hgl : w3.heap.size = gl at *
          generalize hW : w3.alloc (.cells #[.slice none 0 0] 23) = W at *
          clear hgl hW
          have hN : w.heap.size ≤ gl := by omega
          have hgw : w.heap.size < gl := by omega
          refine (K1 _ (h.below T.below) (h'.below T.below)).mono ?_
          rintro e w10 ⟨D1, n1, d1, rfl, U, b1⟩
          have T1 : TI gl (w.heap.size + 1) w.heap.size m a b [] (.slice D1 n1 d1) w w10 := (T.fresh (F' := .slice D1 n1 d1) (fun k e => (U.lt k e).1)).next b1
          have U1 := own_lower U (show gl + 1 ≤ _ from T.lt)
          have hlen1 : n1 = (newV xs ys).length := own_count U imC_len (by omega)
          have hn81 : n1 ≤ 8 := by have := new_le (xs := xs) (ys := ys); omega
          have HL1 := hid (show n1 = (keysOf (newV xs ys)).length by unfold keysOf; rw [List.length_map]; exact hlen1)
          clear T U b1 K1 hlen1
          go_wp2_with fail
          go_loopw [40] (fun i wr => ∃ (k : Nat) (ts : List Told), k ≤ n1 ∧ i = .int .i64 k ∧ Hid (ts = toldTo [] 0 (keysOf (newV xs ys)) k) ∧ TI gl (w.heap.size + 1) w.heap.size m a b ts (.slice D1 n1 d1) w wr ∧ wr.ownsRow (gl + 1) 57 4 (.slice D1 n1 d1) n1 (ims (newV xs ys))) (fun i _ => n1 - (intOf i).toNat)
          case atStart => exact ⟨0, _, Nat.zero_le _, rfl, (toldTo_0 _ _ _).symm, T1, U1⟩
          case round =>
            clear T1 U1
            obtain ⟨k, ts, hk, rfl, hts, T, U⟩ := hrel
            have hlen : ts.length ≤ 8 := by have := toldTo_len [] 0 (keysOf (newV xs ys)) (j := k) (by have := HL1.out; omega); rw [← hts.out] at this; simp only [List.length_nil] at this; omega
            by_cases hlt : k < n1
            · obtain ⟨ad, a', b', s', f', hA, hab, c0, c1, c2, c3⟩ := (own_sl U).im hlt
              subst hA
              have N := hid (toldTo_next [] 0 (keys_at hab))
              rw [← hts.out] at N
              have T2 := T.next (((Ext.of.refl wr).alloc (.cells #[.string a', .string b', .string s', .int .i64 f'] 57)).below)
              have U2 := U.alloc (.cells #[.string a', .string b', .string s', .int .i64 f'] 57)
              have d0 := cell_of_row (wr.alloc (.cells #[.string a', .string b', .string s', .int .i64 f'] 57)) wr.heap.size 0 _ _ _ (alloc_new' rfl)
              obtain ⟨C, e, hl, O, hs⟩ := T2.list
              have H2 := hid (And.intro T2 (And.intro hl (And.intro O hs)))
              clear hts hab T U hl O hs T2
              go_wp2_with (go_at_call 60; refine (tell_any gl (w.heap.size + 1) w.heap.size (gl + 1) 0 a' m a b C ts.length e (numT m a b 0 ts) _ H2.out.2.1 H2.out.1.num H2.out.1.who H2.out.2.2.1 (by omega) H2.out.1.lt hm0 hm1 (by omega)).mono ?_; rintro e' w5 ⟨rfl, T5⟩)
              have T6 := H2.out.1.told (t := (0, a')) H2.out.2.2.1 H2.out.2.2.2 T5 (fun k e => (U2.lt k e).2) (by omega) (by omega) hN
              have U6 := told_own U2 T5 H2.out.2.2.2
              clear H2 U2 T5
              go_roundw
              case rel => exact ⟨k + 1, _, by omega, by go_num, N.out.symm, T6, U6⟩
              case measure => simp [intOf]; omega
            · have hke : k = n1 := by omega
              have E1 := hid (show ts = ofKind 0 (keysOf (newV xs ys)) by rw [hts.out, hke, HL1.out, toldTo_all]; rfl)
              have t0 : decide ((k : Int) < (n1 : Int)) = false := by simp; omega
              clear hts hke U
              go_wp2_with fail
              clear t0 hk hlt HL1
              generalize ts = ts1 at *
              refine (K2 _ (h.below T.below) (h'.below T.below)).mono ?_
              rintro e w20 ⟨D2, n2, d2, rfl, U, b1⟩
              have T2 : TI gl (w.heap.size + 1) w.heap.size m a b ts1 (.slice D2 n2 d2) w w20 := (T.fresh (F' := .slice D2 n2 d2) (fun k e => (U.lt k e).1)).next b1
              have U2 := own_lower U (show gl + 1 ≤ _ from T.lt)
              have hlen2 : n2 = (chV xs ys).length := own_count U imC_len (by omega)
              have hn82 : n2 ≤ 8 := by have := ch_le (xs := xs) (ys := ys); omega
              have HL2 := hid (show n2 = (keysOf (chV xs ys)).length by unfold keysOf; rw [List.length_map]; exact hlen2)
              clear T U b1 K2 hlen2
              go_wp2_with fail
              go_loopw [53] (fun i wr => ∃ (k : Nat) (ts : List Told), k ≤ n2 ∧ i = .int .i64 k ∧ Hid (ts = toldTo ts1 1 (keysOf (chV xs ys)) k) ∧ TI gl (w.heap.size + 1) w.heap.size m a b ts (.slice D2 n2 d2) w wr ∧ wr.ownsRow (gl + 1) 57 4 (.slice D2 n2 d2) n2 (ims (chV xs ys))) (fun i _ => n2 - (intOf i).toNat)
              case atStart => exact ⟨0, _, Nat.zero_le _, rfl, (toldTo_0 _ _ _).symm, T2, U2⟩
              case round =>
                clear T2 U2
                obtain ⟨k, ts, hk, rfl, hts, T, U⟩ := hrel
                have hlen : ts.length ≤ 16 := by have := toldTo_len ts1 1 (keysOf (chV xs ys)) (j := k) (by have := HL2.out; omega); rw [← hts.out] at this; omega
                by_cases hlt : k < n2
                · obtain ⟨ad, a', b', s', f', hA, hab, c0, c1, c2, c3⟩ := (own_sl U).im hlt
                  subst hA
                  have N := hid (toldTo_next ts1 1 (keys_at hab))
                  rw [← hts.out] at N
                  have T2 := T.next (((Ext.of.refl wr).alloc (.cells #[.string a', .string b', .string s', .int .i64 f'] 57)).below)
                  have U2 := U.alloc (.cells #[.string a', .string b', .string s', .int .i64 f'] 57)
                  have d0 := cell_of_row (wr.alloc (.cells #[.string a', .string b', .string s', .int .i64 f'] 57)) wr.heap.size 0 _ _ _ (alloc_new' rfl)
                  obtain ⟨C, e, hl, O, hs⟩ := T2.list
                  have H2 := hid (And.intro T2 (And.intro hl (And.intro O hs)))
                  clear hts hab T U hl O hs T2
                  go_wp2_with (go_at_call 60; refine (tell_any gl (w.heap.size + 1) w.heap.size (gl + 1) 1 a' m a b C ts.length e (numT m a b 0 ts) _ H2.out.2.1 H2.out.1.num H2.out.1.who H2.out.2.2.1 (by omega) H2.out.1.lt hm0 hm1 (by omega)).mono ?_; rintro e' w5 ⟨rfl, T5⟩)
                  have T6 := H2.out.1.told (t := (1, a')) H2.out.2.2.1 H2.out.2.2.2 T5 (fun k e => (U2.lt k e).2) (by omega) (by omega) hN
                  have U6 := told_own U2 T5 H2.out.2.2.2
                  clear H2 U2 T5
                  go_roundw
                  case rel => exact ⟨k + 1, _, by omega, by go_num, N.out.symm, T6, U6⟩
                  case measure => simp [intOf]; omega
                · have hke : k = n2 := by omega
                  have E2 := hid (show ts = ts1 ++ ofKind 1 (keysOf (chV xs ys)) by rw [hts.out, hke, HL2.out, toldTo_all])
                  have t0 : decide ((k : Int) < (n2 : Int)) = false := by simp; omega
                  clear hts hke U
                  go_wp2_with fail
                  clear t0 hk hlt HL2
                  generalize ts = ts2 at *
                  refine (K3 _ (h.below T.below) (h'.below T.below)).mono ?_
                  rintro e w30 ⟨D3, n3, d3, rfl, U, b1⟩
                  have T3 : TI gl (w.heap.size + 1) w.heap.size m a b ts2 (.slice D3 n3 d3) w w30 := (T.fresh (F' := .slice D3 n3 d3) (fun k e => (U.lt k e).1)).next b1
                  have U3 := own_lower U (show gl + 1 ≤ _ from T.lt)
                  have hlen3 : n3 = (goneV xs ys).length := own_count U stC_len (by omega)
                  have hn83 : n3 ≤ 8 := by have := gone_le (xs := xs) (ys := ys); omega
                  have HL3 := hid hlen3
                  clear T U b1 K3 hlen3
                  go_wp2_with fail
                  go_loopw [66] (fun i wr => ∃ (k : Nat) (ts : List Told), k ≤ n3 ∧ i = .int .i64 k ∧ Hid (ts = toldTo ts2 2 (goneV xs ys) k) ∧ TI gl (w.heap.size + 1) w.heap.size m a b ts (.slice D3 n3 d3) w wr ∧ wr.ownsRow (gl + 1) 9 1 (.slice D3 n3 d3) n3 (sts (goneV xs ys))) (fun i _ => n3 - (intOf i).toNat)
                  case atStart => exact ⟨0, _, Nat.zero_le _, rfl, (toldTo_0 _ _ _).symm, T3, U3⟩
                  case round =>
                    clear T3 U3
                    obtain ⟨k, ts, hk, rfl, hts, T, U⟩ := hrel
                    have hlen : ts.length ≤ 24 := by have := toldTo_len ts2 2 (goneV xs ys) (j := k) (by have := HL3.out; omega); rw [← hts.out] at this; omega
                    by_cases hlt : k < n3
                    · obtain ⟨ad, a', hA, hab, c0⟩ := (own_sl U).st hlt
                      subst hA
                      have N := hid (toldTo_next ts2 2 hab)
                      rw [← hts.out] at N
                      have T2 := T
                      have U2 := U
                      obtain ⟨C, e, hl, O, hs⟩ := T2.list
                      have H2 := hid (And.intro T2 (And.intro hl (And.intro O hs)))
                      clear hts hab T U hl O hs T2
                      go_wp2_with (go_at_call 60; refine (tell_any gl (w.heap.size + 1) w.heap.size (gl + 1) 2 a' m a b C ts.length e (numT m a b 0 ts) _ H2.out.2.1 H2.out.1.num H2.out.1.who H2.out.2.2.1 (by omega) H2.out.1.lt hm0 hm1 (by omega)).mono ?_; rintro e' w5 ⟨rfl, T5⟩)
                      have T6 := H2.out.1.told (t := (2, a')) H2.out.2.2.1 H2.out.2.2.2 T5 (fun k e => (U2.lt k e).2) (by omega) (by omega) hN
                      have U6 := told_own U2 T5 H2.out.2.2.2
                      clear H2 U2 T5
                      go_roundw
                      case rel => exact ⟨k + 1, _, by omega, by go_num, N.out.symm, T6, U6⟩
                      case measure => simp [intOf]; omega
                    · have hke : k = n3 := by omega
                      have E3 := hid (show ts = ts2 ++ ofKind 2 (goneV xs ys) by rw [hts.out, hke, HL3.out, toldTo_all])
                      have t0 : decide ((k : Int) < (n3 : Int)) = false := by simp; omega
                      clear hts hke U
                      obtain ⟨C, e, hl, O, hs⟩ := T.list
                      have y0 := cell_of_row _ gl 0 _ _ _ hl
                      have RR := hid (show tellV a b m xs ys = numT m a b 0 ts by rw [R.out, E3.out, E2.out, E1.out, told_parts])
                      have hB := T.below
                      clear hl hs T
                      go_wp2_with fail
                      go_ret
                      exact ⟨C, _, e, rfl, by rw [RR.out]; exact own_lower O (by omega), hB⟩
end Go.Proofs.Ytlfjnaeepblhiaa
