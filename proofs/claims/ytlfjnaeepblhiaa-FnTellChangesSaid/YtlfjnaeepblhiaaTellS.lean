/- The contract of TellChanges, the reference's. -/
import Derived.Test.YtlfjnaeepblhiaaGoneS
import Derived.Test.YtlfjnaeepblhiaaActivityMem
import Derived.Test.YtlfjnaeepblhiaaInts
import Derived.Test.YtlfjnaeepblhiaaSelf
import Derived.Test.YtlfjnaeepblhiaaChain
namespace Go.Proofs.Ytlfjnaeepblhiaa
open Go.RowKit
set_option linter.unusedVariables false
set_option linter.unusedSimpArgs false
theorem sl_int {w : World} {A : Option Addr} {n c : Nat} {zs : List Int} (h : Sl w A n c 1 (ints zs)) {k : Nat} (hk : k < n) : ∃ ad x, A = some ad ∧ zs[k]? = some x ∧ w.cell? (ad.add k) = some (.int .i64 x) := by
  have hl : zs.length = n := by have := h.len; simpa using this
  obtain ⟨ad, hA, hs⟩ := h.see.ad (k := k) (by rw [h.len]; omega)
  obtain ⟨x, gx, gx'⟩ := ints_at (xs := zs) (k := k) (by omega)
  exact ⟨ad, x, hA, gx, hs k _ gx'⟩
/-- Two lists do not share a block. -/
def Sep (v F : Value) : Prop := ∀ k, v.ownBlock = some k → F.ownBlock ≠ some k
theorem Sep.next {v v' F : Value} {w : World} (h : Sep v F) (H : v'.ownBlock = v.ownBlock ∨ v'.ownBlock = some w.heap.size) (hF : ∀ k, F.ownBlock = some k → k < w.heap.size) : Sep v' F := fun k e e2 => by
  rcases H with e3 | e3
  · exact h k (e3.symm.trans e) e2
  · rw [e3] at e; injection e with e; have := hF k e2; omega
theorem Sep.symm {v F : Value} (h : Sep v F) : Sep F v := fun k e e2 => h k e2 e
theorem Sep.keep {v F : Value} {w w' : World} {base : Nat} {T : TypeId} {size n : Nat} {vs : List Value} (h : Sep v F) (U : w.ownsRow base T size F n vs) (G : w.grownBy w' v.ownBlock) : w'.ownsRow base T size F n vs := by
  refine U.kept G ?_
  cases e : F.ownBlock with
  | none => exact .inl rfl
  | some j => exact .inr fun e2 => h j e2.symm e
structure SI (a b : ByteArray) (ks : List Int) (ss : List ByteArray) (kv lv F : Value) (w W : World) : Prop where
  who : W.heap[w.heap.size]? = some (.cells #[.string a, .string b] 27 (0, 0))
  out : W.heap[w.heap.size + 1]? = some (.cells #[] 29 (0, 0))
  kinds : W.ownsRow (w.heap.size + 2) 3 1 kv ks.length (ints ks)
  keys : W.ownsRow (w.heap.size + 2) 9 1 lv ss.length (sts ss)
  sep : Sep kv lv
  sepK : Sep kv F
  sepL : Sep lv F
  below : Below w.heap.size w W
section
variable {a b : ByteArray} {ks : List Int} {ss : List ByteArray} {kv lv F : Value} {w W W' : World}
theorem SI.lt (h : SI a b ks ss kv lv F w W) : w.heap.size + 2 ≤ W.heap.size := (Array.getElem?_eq_some_iff.1 h.out).1
theorem SI.next (h : SI a b ks ss kv lv F w W) (hB : Below W.heap.size W W') : SI a b ks ss kv lv F w W' :=
  ⟨(hB.block _ (Array.getElem?_eq_some_iff.1 h.who).1).trans h.who, (hB.block _ (Array.getElem?_eq_some_iff.1 h.out).1).trans h.out, own_below h.kinds hB, own_below h.keys hB, h.sep, h.sepK, h.sepL, below_next h.below hB⟩
theorem SI.fresh {F' : Value} (h : SI a b ks ss kv lv F w W) (hF : ∀ k, F'.ownBlock = some k → W.heap.size ≤ k) : SI a b ks ss kv lv F' w W :=
  ⟨h.who, h.out, h.kinds, h.keys, h.sep, fun k e e2 => by have := (h.kinds.lt k e).2; have := hF k e2; omega, fun k e e2 => by have := (h.keys.lt k e).2; have := hF k e2; omega, h.below⟩
theorem SI.kind {kv' : Value} {κ : Int} (h : SI a b ks ss kv lv F w W) (hF : ∀ k, F.ownBlock = some k → k < W.heap.size) (O : W'.ownsRow (w.heap.size + 2) 3 1 kv' (ks.length + 1) (ints ks ++ [.int .i64 κ])) (G : W.grownBy W' kv.ownBlock)
    (H : kv'.ownBlock = kv.ownBlock ∨ kv'.ownBlock = some W.heap.size) : SI a b (ks ++ [κ]) ss kv' lv F w W' := by
  have hb : ∀ k, k < w.heap.size + 2 → W'.heap[k]? = W.heap[k]? := fun k hk => G.block k (Nat.lt_of_lt_of_le hk h.lt) (fun e => by have := (h.kinds.lt k e.symm).1; omega)
  refine ⟨(hb _ (by omega)).trans h.who, (hb _ (by omega)).trans h.out, ?_, h.sep.keep h.keys G, h.sep.next H fun k e => (h.keys.lt k e).2, h.sepK.next H hF, h.sepL, h.below.grown G h.below.size fun q hq => by have := (h.kinds.lt q hq).1; omega⟩
  rw [show (ks ++ [κ]).length = ks.length + 1 by simp, show ints (ks ++ [κ]) = ints ks ++ [.int .i64 κ] by simp [ints]]
  exact O
theorem SI.key {lv' : Value} {s : ByteArray} (h : SI a b ks ss kv lv F w W) (hF : ∀ k, F.ownBlock = some k → k < W.heap.size) (O : W'.ownsRow (w.heap.size + 2) 9 1 lv' (ss.length + 1) (sts ss ++ stC s)) (G : W.grownBy W' lv.ownBlock)
    (H : lv'.ownBlock = lv.ownBlock ∨ lv'.ownBlock = some W.heap.size) : SI a b ks (ss ++ [s]) kv lv' F w W' := by
  have hb : ∀ k, k < w.heap.size + 2 → W'.heap[k]? = W.heap[k]? := fun k hk => G.block k (Nat.lt_of_lt_of_le hk h.lt) (fun e => by have := (h.keys.lt k e.symm).1; omega)
  refine ⟨(hb _ (by omega)).trans h.who, (hb _ (by omega)).trans h.out, h.sep.symm.keep h.kinds G, ?_, (h.sep.symm.next H fun k e => (h.kinds.lt k e).2).symm, h.sepK, h.sepL.next H hF, h.below.grown G h.below.size fun q hq => by have := (h.keys.lt q hq).1; omega⟩
  rw [show (ss ++ [s]).length = ss.length + 1 by simp, show sts (ss ++ [s]) = sts ss ++ stC s by simp [flat]]
  exact O
end
/-- One number is told after the other. -/
theorem numT_take {a b : ByteArray} {m : Int} {ts : List Told} {k : Nat} {κ : Int} {s : ByteArray} (h1 : (ts.map (·.1))[k]? = some κ) (h2 : (ts.map (·.2))[k]? = some s) : numT m a b 0 (ts.take (k + 1)) = numT m a b 0 (ts.take k) ++ [(κ, m + k, a, b, s)] := by
  rw [List.getElem?_map] at h1 h2
  cases h : ts[k]? with
  | none => rw [h] at h1; simp at h1
  | some t =>
    rw [h] at h1 h2
    simp at h1 h2
    subst h1 h2
    have hk := (List.getElem?_eq_some_iff.1 h).1
    rw [List.take_add_one, h]
    show numT m a b 0 (ts.take k ++ [t]) = _
    rw [numT_snoc, List.length_take, Nat.min_eq_left (by omega)]
def TrT (v : Option Nat) (i : Nat) (a b : World) : Prop := if i = 15 then a.grownBy b v else Ext.of a b
theorem TrT.ext {v : Option Nat} {i : Nat} {a b : World} (h : TrT v i a b) (hi : i ≠ 15) : Ext.of a b := by unfold TrT at h; rwa [if_neg hi] at h
theorem TrT.same {v : Option Nat} {i : Nat} (a : World) (hi : i ≠ 15) : TrT v i a a := by unfold TrT; rw [if_neg hi]; exact Ext.of.refl _
theorem TrT.mk {v : Option Nat} {i : Nat} {a b : World} (x : Ext.of a b) (hi : i ≠ 15) : TrT v i a b := by unfold TrT; rw [if_neg hi]; exact x
/-- What the last loop leans on. -/
structure SK (a b : ByteArray) (n : Nat) (ks : List Int) (ss : List ByteArray) (kv lv : Value) (w W : World) : Prop where
  who : W.heap[w.heap.size]? = some (.cells #[.string a, .string b] 27 (0, 0))
  kinds : W.ownsRow (w.heap.size + 2) 3 1 kv n (ints ks)
  keys : W.ownsRow (w.heap.size + 2) 9 1 lv n (sts ss)
  below : Below w.heap.size w W
section
variable {a b : ByteArray} {n : Nat} {ks : List Int} {ss : List ByteArray} {kv lv : Value} {w W W' : World}
theorem SK.ext (h : SK a b n ks ss kv lv w W) (x : Ext.of W W') : SK a b n ks ss kv lv w W' :=
  ⟨(x.block (Array.getElem?_eq_some_iff.1 h.who).1).trans h.who, own_ext h.kinds x, own_ext h.keys x, below_next h.below x.below⟩
theorem SK.grown {ov : Value} {q : Nat} {vs : List Value} (h : SK a b n ks ss kv lv w W) (O : W.ownsRow (w.heap.size + 1) 29 5 ov q vs) (s1 : Sep ov kv) (s2 : Sep ov lv) (G : W.grownBy W' ov.ownBlock) : SK a b n ks ss kv lv w W' :=
  ⟨(G.block _ (Array.getElem?_eq_some_iff.1 h.who).1 (fun e => by have := (O.lt _ e.symm).1; omega)).trans h.who, s1.keep h.kinds G, s2.keep h.keys G, h.below.grown G h.below.size fun q hq => by have := (O.lt q hq).1; omega⟩
theorem SK.kat {A : Option Addr} {c k : Nat} {ad : Addr} {x : Int} (h : SK a b n ks ss (.slice A n c) lv w W) (hk : k < n) (hA : A = some ad) (hx : ks[k]? = some x) : W.cell? (ad.add k) = some (.int .i64 x) := by
  obtain ⟨ad', x', e1, e2, c0⟩ := sl_int (own_sl h.kinds) hk
  rw [hA] at e1
  injection e1 with e1
  subst e1
  rw [hx] at e2
  injection e2 with e2
  subst e2
  exact c0
theorem SK.lat {A : Option Addr} {c k : Nat} {ad : Addr} {x : ByteArray} (h : SK a b n ks ss kv (.slice A n c) w W) (hk : k < n) (hA : A = some ad) (hx : ss[k]? = some x) : W.cell? (ad.add k) = some (.string x) := by
  obtain ⟨ad', x', e1, e2, c0⟩ := (own_sl h.keys).st hk
  rw [hA] at e1
  injection e1 with e1
  subst e1
  rw [hx] at e2
  injection e2 with e2
  subst e2
  exact c0
end
set_option maxRecDepth 8000 in
set_option maxHeartbeats 16000000 in
theorem tellS_any (a b : ByteArray) (m : Int) (A : Option Addr) (n c : Nat) (xs : List Im) (B : Option Addr) (p d : Nat) (ys : List Im) (w : World) (ha : a.size ≤ 9223372036854775807) (hb : b.size ≤ 9223372036854775807) (h : Sl w A n c 4 (ims xs)) (hx : imOk xs) (h' : Sl w B p d 4 (ims ys)) (hy : imOk ys) :
    Calls Try.prog 31 #[hdA a b, .int .i64 m, .slice A n c, .slice B p d] w fun e w' => ∃ C q e', e = .returned (.slice C q e') ∧ w'.ownsRow w.heap.size 29 5 (.slice C q e') q (acs (tellV a b m xs ys)) ∧ Below w.heap.size w w' := by
  have C0 := fun W => hvalS_any a b W ha hb
  have C1 := fun W (S : Sl W A n c 4 (ims xs)) => fdS_any A n c xs W S hx
  have C2 := fun W (S : Sl W B p d 4 (ims ys)) => fdS_any B p d ys W S hy
  have K1 := fun W (S : Sl W A n c 4 (ims xs)) (S' : Sl W B p d 4 (ims ys)) => newS_any A n c xs B p d ys W S hx S' hy
  have K2 := fun W (S : Sl W A n c 4 (ims xs)) (S' : Sl W B p d 4 (ims ys)) => chS_any A n c xs B p d ys W S hx S' hy
  have K3 := fun W (S : Sl W A n c 4 (ims xs)) (S' : Sl W B p d 4 (ims ys)) => goneS_any A n c xs B p d ys W S hx S' hy
  clear ha hb hx hy
  have q1 : ((w.alloc (.cells #[.string a, .string b] 27)).alloc (.cells #[] 29)).heap[w.heap.size]? = some (.cells #[.string a, .string b] 27 (0, 0)) := alloc_old (alloc_new' rfl)
  have q2 : ((w.alloc (.cells #[.string a, .string b] 27)).alloc (.cells #[] 29)).heap[w.heap.size + 1]? = some (.cells #[] 29 (0, 0)) := alloc_new' (by simp)
  have x0 : Ext.of w ((w.alloc (.cells #[.string a, .string b] 27)).alloc (.cells #[] 29)) := ((Ext.of.refl _).alloc _).alloc _
  have c0 := cell_of_row _ w.heap.size 0 _ _ _ q1
  have c1 := cell_of_row _ w.heap.size 1 _ _ _ q1
  go_enter Try.func31, Try.ntmps31
  go_wp2_with fail
  clear c0 c1
  generalize hW0 : (w.alloc (.cells #[.string a, .string b] 27)).alloc (.cells #[] 29) = W0 at *
  clear hW0
  have EMP : ∀ W : World, W.heap[w.heap.size + 1]? = some (.cells #[] 29 (0, 0)) → W.ownsRow w.heap.size 29 5 (.slice (some ⟨w.heap.size + 1, 0, none⟩) 0 0) 0 (acs []) := fun W e =>
    ⟨by simp [flat], .inr ⟨w.heap.size + 1, 0, #[], rfl, by omega, e, Nat.le_refl _, Nat.zero_le _, by simp, by simp [flat]⟩⟩
  refine (C0 W0).mono ?_
  rintro e w1 ⟨rfl, x1⟩
  replace q1 := (x1.block (Array.getElem?_eq_some_iff.1 q1).1).trans q1
  replace q2 := (x1.block (Array.getElem?_eq_some_iff.1 q2).1).trans q2
  replace x0 := x0.trans x1
  clear x1 C0
  cases hv : hvalV a b with
  | false =>
    have R := hid (tell_no1 (m := m) (xs := xs) (ys := ys) hv)
    clear hv
    go_wp2_with fail
    go_ret
    exact ⟨_, 0, 0, rfl, by rw [R.out]; exact EMP _ q2, x0.below⟩
  | true =>
    cases hm : inB m 0 1000000 with
    | false =>
      have R := hid (tell_no2 (a := a) (b := b) (xs := xs) (ys := ys) hm)
      clear hv
      go_wp2_with (go_at_call 65; refine (l1In_any _ _ _ _).mono ?_; rintro e' w' ⟨rfl, rfl⟩)
      go_ret
      exact ⟨_, 0, 0, rfl, by rw [R.out]; exact EMP _ q2, x0.below⟩
    | true =>
      have HV := hid hv
      have HM := hid hm
      clear hv
      go_wp2_with (first | (go_at_call 65; refine (l1In_any _ _ _ _).mono ?_; rintro e' w' ⟨rfl, rfl⟩) | fail)
      refine (C1 w1 (h.ext x0)).mono ?_
      rintro e w2 ⟨rfl, x2⟩
      replace q1 := (x2.block (Array.getElem?_eq_some_iff.1 q1).1).trans q1
      replace q2 := (x2.block (Array.getElem?_eq_some_iff.1 q2).1).trans q2
      replace x0 := x0.trans x2
      clear x2 C1 hm
      cases hv : fdV xs with
      | false =>
        have R := hid (tell_no3 (a := a) (b := b) (m := m) (ys := ys) hv)
        clear hv
        go_wp2_with fail
        go_ret
        exact ⟨_, 0, 0, rfl, by rw [R.out]; exact EMP _ q2, x0.below⟩
      | true =>
        have HX := hid hv
        clear hv
        go_wp2_with fail
        refine (C2 w2 (h'.ext x0)).mono ?_
        rintro e w3 ⟨rfl, x3⟩
        replace q1 := (x3.block (Array.getElem?_eq_some_iff.1 q1).1).trans q1
        replace q2 := (x3.block (Array.getElem?_eq_some_iff.1 q2).1).trans q2
        replace x0 := x0.trans x3
        clear x3 C2
        cases hv : fdV ys with
        | false =>
          have R := hid (tell_no4 (a := a) (b := b) (m := m) (xs := xs) hv)
          clear hv
          go_wp2_with fail
          go_ret
          exact ⟨_, 0, 0, rfl, by rw [R.out]; exact EMP _ q2, x0.below⟩
        | true =>
          have R := hid (tell_yes (xs := xs) (ys := ys) HV.out HM.out HX.out hv)
          have HM2 : 0 ≤ m ∧ m ≤ 1000000 := by have := HM.out; unfold inB at this; simpa using this
          obtain ⟨hm0, hm1⟩ := HM2
          clear hv HV HM HX EMP
          have hz3 : w.heap.size + 2 ≤ w3.heap.size := (Array.getElem?_eq_some_iff.1 q2).1
          have T : SI a b [] [] (.slice (some ⟨w3.heap.size, 0, none⟩) 0 0) (.slice (some ⟨w3.heap.size + 1, 0, none⟩) 0 0) (.slice none 0 0) w ((w3.alloc (.cells #[] 3)).alloc (.cells #[] 9)) :=
            ⟨alloc_old (alloc_old q1), alloc_old (alloc_old q2), own_lower ((own_empty w3 3 1).alloc _) hz3, own_lower (show World.ownsRow _ w3.heap.size 9 1 _ 0 [] from ⟨by simp, .inr ⟨w3.heap.size + 1, 0, #[], rfl, by omega, alloc_new' (by simp), Nat.le_refl _, Nat.zero_le _, by simp, by simp⟩⟩) hz3,
              fun k e e2 => by simp [Value.ownBlock] at e e2; omega, fun k e e2 => by simp [Value.ownBlock] at e2, fun k e e2 => by simp [Value.ownBlock] at e2, ((x0.alloc _).alloc _).below⟩
          clear q1 q2 x0
          go_wp2_with fail
          generalize hk0 : Value.slice (some ⟨w3.heap.size, 0, none⟩) 0 0 = kv0 at *
          generalize hl0 : Value.slice (some ⟨w3.heap.size + 1, 0, none⟩) 0 0 = lv0 at *
          generalize hW : (w3.alloc (.cells #[] 3)).alloc (.cells #[] 9) = W at *
          clear hk0 hl0 hW hz3
          refine (K1 _ (h.below T.below) (h'.below T.below)).mono ?_
          rintro e w10 ⟨D1, n1, d1, rfl, U, b1⟩
          have T1 : SI a b [] [] kv0 lv0 (.slice D1 n1 d1) w w10 := (T.fresh (F' := .slice D1 n1 d1) (fun k e => (U.lt k e).1)).next b1
          have U1 := own_lower U T.lt
          have hlen1 : n1 = (newV xs ys).length := own_count U imC_len (by omega)
          have hn81 : n1 ≤ 8 := by have := new_le (xs := xs) (ys := ys); omega
          have HL1 := hid (show n1 = (keysOf (newV xs ys)).length by unfold keysOf; rw [List.length_map]; exact hlen1)
          clear T U b1 K1 hlen1
          go_wp2_with fail
          go_loopw [10, 11, 13] (fun kv lv i wr => ∃ (k : Nat) (ts : List Told), k ≤ n1 ∧ i = .int .i64 k ∧ Hid (ts = toldTo [] 0 (keysOf (newV xs ys)) k) ∧ SI a b (ts.map (·.1)) (ts.map (·.2)) kv lv (.slice D1 n1 d1) w wr ∧ wr.ownsRow (w.heap.size + 2) 57 4 (.slice D1 n1 d1) n1 (ims (newV xs ys))) (fun _ _ i _ => n1 - (intOf i).toNat)
          case atStart => exact ⟨0, _, Nat.zero_le _, rfl, (toldTo_0 _ _ _).symm, T1, U1⟩
          case round =>
            clear T1 U1
            obtain ⟨k, ts, hk, rfl, hts, T, U⟩ := hrel
            have hlen : ts.length ≤ 8 := by have := toldTo_len [] 0 (keysOf (newV xs ys)) (j := k) (by have := HL1.out; omega); rw [← hts.out] at this; simp only [List.length_nil] at this; omega
            have tk := T.kinds
            have tl := T.keys
            rw [List.length_map] at tk tl
            obtain ⟨K1, ek1, hK0, _⟩ := own_form tk
            subst hK0
            obtain ⟨L1, el1, hL0, _⟩ := own_form tl
            subst hL0
            clear tk tl
            by_cases hlt : k < n1
            · obtain ⟨ad, a', b', s', f', hA, hab, _, _, _, _⟩ := (own_sl U).im hlt
              subst hA
              have N := hid (toldTo_next [] 0 (keys_at hab))
              rw [← hts.out] at N
              have T2 := T.next (((Ext.of.refl wr).alloc (.cells #[.int .i64 0] 3)).below)
              have U2 := U.alloc (.cells #[.int .i64 0] 3)
              have hl1 : (ts.map (·.1)).length ≤ 24 := by rw [List.length_map]; omega
              have hl2 : (ts.map (·.2)).length ≤ 24 := by rw [List.length_map]; omega
              have HT := hid (And.intro T2 (And.intro U2 hab))
              clear hts T U T2 U2 hab
              generalize hks : ts.map (·.1) = ks at *
              generalize hss : ts.map (·.2) = ss at *
              have HKS := hid (And.intro hks hss)
              clear hks hss
              go_wp2_with (first
                    | (at_builtin; refine wpList_append_see _ rfl (.tmp 50) (.tmp 51) eltInt rfl (w.heap.size + 2) _ ks.length (ints ks) rfl HT.out.1.kinds (some ⟨wr.heap.size, 0, none⟩) 1 1 [.int .i64 0] rfl (see_new _ [.int .i64 0] _ _ rfl) (fun e => by cases e) rfl (ints_oneCell _ [0]) (by unfold maxLen; omega) (by omega) HT.out.1.lt ?_
                       intro v4 w4 O4 G4 H4
                       have T4 := HT.out.1.kind (fun k e => (HT.out.2.1.lt k e).2) O4 G4 H4
                       have U4 := HT.out.1.sepK.keep HT.out.2.1 G4
                       obtain ⟨A4, e4, rfl, _⟩ := own_form O4
                       clear O4 G4 H4
                       obtain ⟨ad', a2, b2, s2, f2, hA2, hab2, c0, c1, c2, c3⟩ := (own_sl U4).im hlt
                       injection hA2 with hA2
                       subst hA2
                       have hE2 := hab2.symm.trans HT.out.2.2
                       injection hE2 with hE2
                       injection hE2 with hE2 hE3
                       subst hE2
                       clear hab2 hE3 c1 c2 c3
                       have T5 := T4.next (((Ext.of.refl w4).alloc (.cells #[.string a2] 9)).below)
                       have U5 := U4.alloc (.cells #[.string a2] 9)
                       have HS := hid (And.intro T5 U5)
                       clear T4 U4 T5 U5)
                    | (at_builtin; refine wpList_append_see _ rfl (.tmp 53) (.tmp 59) eltString rfl (w.heap.size + 2) _ ss.length (sts ss) rfl HS.out.1.keys (some ⟨w4.heap.size, 0, none⟩) 1 1 (stC a2) rfl (see_new _ (stC a2) _ _ rfl) (fun e => by cases e) rfl (stC_one _) (by unfold maxLen; omega) (by omega) HS.out.1.lt ?_
                       intro v6 w6 O6 G6 H6
                       have T6 := HS.out.1.key (fun k e => (HS.out.2.lt k e).2) O6 G6 H6
                       have U6 := HS.out.1.sepL.keep HS.out.2 G6
                       clear O6 G6 H6 HS HT c0))
              go_roundw
              case rel => exact ⟨k + 1, ts ++ [(0, a2)], by omega, by go_num, N.out.symm, by rw [List.map_append, List.map_append, HKS.out.1, HKS.out.2]; exact T6, U6⟩
              case measure => simp [intOf]; omega
            · have hke : k = n1 := by omega
              have E1 := hid (show ts = ofKind 0 (keysOf (newV xs ys)) by rw [hts.out, hke, HL1.out, toldTo_all]; rfl)
              have t0 : decide ((k : Int) < (n1 : Int)) = false := by simp; omega
              clear hts hke U
              go_wp2_with fail
              clear t0 hk hlt HL1
              generalize ts = ts1 at *
              refine (K2 _ (h.below T.below) (h'.below T.below)).mono ?_
              rintro e w20 ⟨D2, n2, d2, rfl, U, b1⟩
              have T2 : SI a b (ts1.map (·.1)) (ts1.map (·.2)) (.slice K1 ts1.length ek1) (.slice L1 ts1.length el1) (.slice D2 n2 d2) w w20 := (T.fresh (F' := .slice D2 n2 d2) (fun k e => (U.lt k e).1)).next b1
              have U2 := own_lower U T.lt
              have hlen2 : n2 = (chV xs ys).length := own_count U imC_len (by omega)
              have hn82 : n2 ≤ 8 := by have := ch_le (xs := xs) (ys := ys); omega
              have HL2 := hid (show n2 = (keysOf (chV xs ys)).length by unfold keysOf; rw [List.length_map]; exact hlen2)
              clear T U b1 K2 hlen2
              go_wp2_with fail
              go_loopw [10, 11, 15] (fun kv lv i wr => ∃ (k : Nat) (ts : List Told), k ≤ n2 ∧ i = .int .i64 k ∧ Hid (ts = toldTo ts1 1 (keysOf (chV xs ys)) k) ∧ SI a b (ts.map (·.1)) (ts.map (·.2)) kv lv (.slice D2 n2 d2) w wr ∧ wr.ownsRow (w.heap.size + 2) 57 4 (.slice D2 n2 d2) n2 (ims (chV xs ys))) (fun _ _ i _ => n2 - (intOf i).toNat)
              case atStart => exact ⟨0, _, Nat.zero_le _, rfl, (toldTo_0 _ _ _).symm, T2, U2⟩
              case round =>
                clear T2 U2
                obtain ⟨k, ts, hk, rfl, hts, T, U⟩ := hrel
                have hlen : ts.length ≤ 16 := by have := toldTo_len ts1 1 (keysOf (chV xs ys)) (j := k) (by have := HL2.out; omega); rw [← hts.out] at this; omega
                have tk := T.kinds
                have tl := T.keys
                rw [List.length_map] at tk tl
                obtain ⟨K2, ek2, hK0, _⟩ := own_form tk
                subst hK0
                obtain ⟨L2, el2, hL0, _⟩ := own_form tl
                subst hL0
                clear tk tl
                by_cases hlt : k < n2
                · obtain ⟨ad, a', b', s', f', hA, hab, _, _, _, _⟩ := (own_sl U).im hlt
                  subst hA
                  have N := hid (toldTo_next ts1 1 (keys_at hab))
                  rw [← hts.out] at N
                  have T2 := T.next (((Ext.of.refl wr).alloc (.cells #[.int .i64 1] 3)).below)
                  have U2 := U.alloc (.cells #[.int .i64 1] 3)
                  have hl1 : (ts.map (·.1)).length ≤ 24 := by rw [List.length_map]; omega
                  have hl2 : (ts.map (·.2)).length ≤ 24 := by rw [List.length_map]; omega
                  have HT := hid (And.intro T2 (And.intro U2 hab))
                  clear hts T U T2 U2 hab
                  generalize hks : ts.map (·.1) = ks at *
                  generalize hss : ts.map (·.2) = ss at *
                  have HKS := hid (And.intro hks hss)
                  clear hks hss
                  go_wp2_with (first
                        | (at_builtin; refine wpList_append_see _ rfl (.tmp 70) (.tmp 71) eltInt rfl (w.heap.size + 2) _ ks.length (ints ks) rfl HT.out.1.kinds (some ⟨wr.heap.size, 0, none⟩) 1 1 [.int .i64 1] rfl (see_new _ [.int .i64 1] _ _ rfl) (fun e => by cases e) rfl (ints_oneCell _ [1]) (by unfold maxLen; omega) (by omega) HT.out.1.lt ?_
                           intro v4 w4 O4 G4 H4
                           have T4 := HT.out.1.kind (fun k e => (HT.out.2.1.lt k e).2) O4 G4 H4
                           have U4 := HT.out.1.sepK.keep HT.out.2.1 G4
                           obtain ⟨A4, e4, rfl, _⟩ := own_form O4
                           clear O4 G4 H4
                           obtain ⟨ad', a2, b2, s2, f2, hA2, hab2, c0, c1, c2, c3⟩ := (own_sl U4).im hlt
                           injection hA2 with hA2
                           subst hA2
                           have hE2 := hab2.symm.trans HT.out.2.2
                           injection hE2 with hE2
                           injection hE2 with hE2 hE3
                           subst hE2
                           clear hab2 hE3 c1 c2 c3
                           have T5 := T4.next (((Ext.of.refl w4).alloc (.cells #[.string a2] 9)).below)
                           have U5 := U4.alloc (.cells #[.string a2] 9)
                           have HS := hid (And.intro T5 U5)
                           clear T4 U4 T5 U5)
                        | (at_builtin; refine wpList_append_see _ rfl (.tmp 73) (.tmp 79) eltString rfl (w.heap.size + 2) _ ss.length (sts ss) rfl HS.out.1.keys (some ⟨w4.heap.size, 0, none⟩) 1 1 (stC a2) rfl (see_new _ (stC a2) _ _ rfl) (fun e => by cases e) rfl (stC_one _) (by unfold maxLen; omega) (by omega) HS.out.1.lt ?_
                           intro v6 w6 O6 G6 H6
                           have T6 := HS.out.1.key (fun k e => (HS.out.2.lt k e).2) O6 G6 H6
                           have U6 := HS.out.1.sepL.keep HS.out.2 G6
                           clear O6 G6 H6 HS HT c0))
                  go_roundw
                  case rel => exact ⟨k + 1, ts ++ [(1, a2)], by omega, by go_num, N.out.symm, by rw [List.map_append, List.map_append, HKS.out.1, HKS.out.2]; exact T6, U6⟩
                  case measure => simp [intOf]; omega
                · have hke : k = n2 := by omega
                  have E2 := hid (show ts = ts1 ++ ofKind 1 (keysOf (chV xs ys)) by rw [hts.out, hke, HL2.out, toldTo_all])
                  have t0 : decide ((k : Int) < (n2 : Int)) = false := by simp; omega
                  clear hts hke U
                  go_wp2_with fail
                  clear t0 hk hlt HL2
                  generalize ts = ts2 at *
                  refine (K3 _ (h.below T.below) (h'.below T.below)).mono ?_
                  rintro e w30 ⟨D3, n3, d3, rfl, U, b1⟩
                  have T3 : SI a b (ts2.map (·.1)) (ts2.map (·.2)) (.slice K2 ts2.length ek2) (.slice L2 ts2.length el2) (.slice D3 n3 d3) w w30 := (T.fresh (F' := .slice D3 n3 d3) (fun k e => (U.lt k e).1)).next b1
                  have U3 := own_lower U T.lt
                  have hlen3 : n3 = (goneV xs ys).length := own_count U stC_len (by omega)
                  have hn83 : n3 ≤ 8 := by have := gone_le (xs := xs) (ys := ys); omega
                  have HL3 := hid hlen3
                  clear T U b1 K3 hlen3
                  go_wp2_with fail
                  go_loopw [10, 11, 17] (fun kv lv i wr => ∃ (k : Nat) (ts : List Told), k ≤ n3 ∧ i = .int .i64 k ∧ Hid (ts = toldTo ts2 2 (goneV xs ys) k) ∧ SI a b (ts.map (·.1)) (ts.map (·.2)) kv lv (.slice D3 n3 d3) w wr ∧ wr.ownsRow (w.heap.size + 2) 9 1 (.slice D3 n3 d3) n3 (sts (goneV xs ys))) (fun _ _ i _ => n3 - (intOf i).toNat)
                  case atStart => exact ⟨0, _, Nat.zero_le _, rfl, (toldTo_0 _ _ _).symm, T3, U3⟩
                  case round =>
                    clear T3 U3
                    obtain ⟨k, ts, hk, rfl, hts, T, U⟩ := hrel
                    have hlen : ts.length ≤ 24 := by have := toldTo_len ts2 2 (goneV xs ys) (j := k) (by have := HL3.out; omega); rw [← hts.out] at this; omega
                    have tk := T.kinds
                    have tl := T.keys
                    rw [List.length_map] at tk tl
                    obtain ⟨K3, ek3, hK0, _⟩ := own_form tk
                    subst hK0
                    obtain ⟨L3, el3, hL0, _⟩ := own_form tl
                    subst hL0
                    clear tk tl
                    by_cases hlt : k < n3
                    · obtain ⟨ad, a', hA, hab, _⟩ := (own_sl U).st hlt
                      subst hA
                      have N := hid (toldTo_next ts2 2 hab)
                      rw [← hts.out] at N
                      have T2 := T.next (((Ext.of.refl wr).alloc (.cells #[.int .i64 2] 3)).below)
                      have U2 := U.alloc (.cells #[.int .i64 2] 3)
                      have hl1 : (ts.map (·.1)).length ≤ 24 := by rw [List.length_map]; omega
                      have hl2 : (ts.map (·.2)).length ≤ 24 := by rw [List.length_map]; omega
                      have HT := hid (And.intro T2 (And.intro U2 hab))
                      clear hts T U T2 U2 hab
                      generalize hks : ts.map (·.1) = ks at *
                      generalize hss : ts.map (·.2) = ss at *
                      have HKS := hid (And.intro hks hss)
                      clear hks hss
                      go_wp2_with (first
                            | (at_builtin; refine wpList_append_see _ rfl (.tmp 90) (.tmp 91) eltInt rfl (w.heap.size + 2) _ ks.length (ints ks) rfl HT.out.1.kinds (some ⟨wr.heap.size, 0, none⟩) 1 1 [.int .i64 2] rfl (see_new _ [.int .i64 2] _ _ rfl) (fun e => by cases e) rfl (ints_oneCell _ [2]) (by unfold maxLen; omega) (by omega) HT.out.1.lt ?_
                               intro v4 w4 O4 G4 H4
                               have T4 := HT.out.1.kind (fun k e => (HT.out.2.1.lt k e).2) O4 G4 H4
                               have U4 := HT.out.1.sepK.keep HT.out.2.1 G4
                               obtain ⟨A4, e4, rfl, _⟩ := own_form O4
                               clear O4 G4 H4
                               obtain ⟨ad', a2, hA2, hab2, c0⟩ := (own_sl U4).st hlt
                               injection hA2 with hA2
                               subst hA2
                               have hE2 := hab2.symm.trans HT.out.2.2
                               injection hE2 with hE2
                               skip
                               subst hE2
                               clear hab2 
                               have T5 := T4.next (((Ext.of.refl w4).alloc (.cells #[.string a2] 9)).below)
                               have U5 := U4.alloc (.cells #[.string a2] 9)
                               have HS := hid (And.intro T5 U5)
                               clear T4 U4 T5 U5)
                            | (at_builtin; refine wpList_append_see _ rfl (.tmp 93) (.tmp 98) eltString rfl (w.heap.size + 2) _ ss.length (sts ss) rfl HS.out.1.keys (some ⟨w4.heap.size, 0, none⟩) 1 1 (stC a2) rfl (see_new _ (stC a2) _ _ rfl) (fun e => by cases e) rfl (stC_one _) (by unfold maxLen; omega) (by omega) HS.out.1.lt ?_
                               intro v6 w6 O6 G6 H6
                               have T6 := HS.out.1.key (fun k e => (HS.out.2.lt k e).2) O6 G6 H6
                               have U6 := HS.out.1.sepL.keep HS.out.2 G6
                               clear O6 G6 H6 HS HT c0))
                      go_roundw
                      case rel => exact ⟨k + 1, ts ++ [(2, a2)], by omega, by go_num, N.out.symm, by rw [List.map_append, List.map_append, HKS.out.1, HKS.out.2]; exact T6, U6⟩
                      case measure => simp [intOf]; omega
                    · have hke : k = n3 := by omega
                      have E3 := hid (show ts = ts2 ++ ofKind 2 (goneV xs ys) by rw [hts.out, hke, HL3.out, toldTo_all])
                      have t0 : decide ((k : Int) < (n3 : Int)) = false := by simp; omega
                      clear hts hke U
                      go_wp2_with fail
                      clear t0 hk hlt HL3
                      generalize ts = ts3 at *
                      have O : wr.ownsRow (w.heap.size + 1) 29 5 (.slice (some ⟨w.heap.size + 1, 0, none⟩) 0 0) 0 (acs []) := ⟨by simp [flat], .inr ⟨w.heap.size + 1, 0, #[], rfl, Nat.le_refl _, T.out, Nat.le_refl _, Nat.zero_le _, by simp, by simp [flat]⟩⟩
                      have RR := hid (show tellV a b m xs ys = numT m a b 0 ts3 by rw [R.out, E3.out, E2.out, E1.out, told_parts])
                      have hs1 : Sep (.slice (some ⟨w.heap.size + 1, 0, none⟩) 0 0) (.slice K3 ts3.length ek3) := fun k e e2 => by have := (T.kinds.lt k e2).1; simp [Value.ownBlock] at e; omega
                      have hs2 : Sep (.slice (some ⟨w.heap.size + 1, 0, none⟩) 0 0) (.slice L3 ts3.length el3) := fun k e e2 => by have := (T.keys.lt k e2).1; simp [Value.ownBlock] at e; omega
                      have TK : SK a b ts3.length (ts3.map (·.1)) (ts3.map (·.2)) (.slice K3 ts3.length ek3) (.slice L3 ts3.length el3) w wr := ⟨T.who, by have := T.kinds; simpa only [List.length_map] using this, by have := T.keys; simpa only [List.length_map] using this, T.below⟩
                      have HTL := hid (show ts3.take ts3.length = ts3 from List.take_length)
                      clear R E1 E2 E3 T h h'
                      generalize ts3.length = n4 at *
                      go_loopw [9, 18] (fun ov i wr => ∃ k : Nat, k ≤ n4 ∧ i = .int .i64 k ∧ wr.ownsRow (w.heap.size + 1) 29 5 ov k (acs (numT m a b 0 (ts3.take k))) ∧ Sep ov (.slice K3 n4 ek3) ∧ Sep ov (.slice L3 n4 el3) ∧ SK a b n4 (ts3.map (·.1)) (ts3.map (·.2)) (.slice K3 n4 ek3) (.slice L3 n4 el3) w wr) (fun _ i _ => n4 - (intOf i).toNat)
                      case atStart => exact ⟨0, Nat.zero_le _, rfl, O, hs1, hs2, TK⟩
                      case round =>
                        clear O hs1 hs2 TK
                        obtain ⟨k, hk, rfl, O, s1, s2, T⟩ := hrel
                        obtain ⟨C, e', hv, _⟩ := own_form O
                        subst hv
                        by_cases hlt : k < n4
                        · obtain ⟨adk, κ, hKA, hκ, _⟩ := sl_int (own_sl T.kinds) hlt
                          subst hKA
                          obtain ⟨adl, s, hLA, hs, _⟩ := (own_sl T.keys).st hlt
                          subst hLA
                          have N := hid (numT_take (a := a) (b := b) (m := m) hκ hs)
                          have CK := fun (u : World) (h : SK a b n4 (ts3.map (·.1)) (ts3.map (·.2)) (.slice (some adk) n4 ek3) (.slice (some adl) n4 el3) w u) => h.kat hlt rfl hκ
                          have CL := fun (u : World) (h : SK a b n4 (ts3.map (·.1)) (ts3.map (·.2)) (.slice (some adk) n4 ek3) (.slice (some adl) n4 el3) w u) => h.lat hlt rfl hs
                          clear hκ hs
                          go_wp2_with fail
                          have hkI : (k : Int) < (n4 : Int) := by omega
                          have hmk : -9223372036854775808 ≤ m + (k : Int) ∧ m + (k : Int) ≤ 9223372036854775807 := by omega
                          refine wp_region_ghostS (d := 15) (G := fun u => u.ownsRow (w.heap.size + 1) 29 5 (.slice C k e') k (acs (numT m a b 0 (ts3.take k)))) (W := fun _ u => SK a b n4 (ts3.map (·.1)) (ts3.map (·.2)) (.slice (some adk) n4 ek3) (.slice (some adl) n4 el3) w u) (dead := fun i j => i == 15 && j == 14)
                            (Tr := fun i a b => TrT (Value.slice C k e').ownBlock i a b)
                            (F := fun i v w' => match i with
                              | 0 => v = .slice C k e'
                              | 1 => v = (.slice (some adk) n4 ek3)
                              | 2 => v = .int .i64 k
                              | 3 => v = .pointer (some (adk.add k))
                              | 4 => v = .int .i64 κ
                              | 5 => v = .int .i64 m
                              | 6 => v = .int .i64 k
                              | 7 => v = .int .i64 (m + k)
                              | 8 => v = hdA a b
                              | 9 => v = (.slice (some adl) n4 el3)
                              | 10 => v = .int .i64 k
                              | 11 => v = .pointer (some (adl.add k))
                              | 12 => v = .string s
                              | 13 => v = acA κ (m + k) a b s
                              | 14 => ∃ q : Nat, v = .slice (some ⟨q, 0, none⟩) 1 1 ∧ w'.heap[q]? = some (.cells (acC (κ, m + k, a, b, s)).toArray 29 (0, 0))
                              | 15 => w'.ownsRow (w.heap.size + 1) 29 5 v (k + 1) (acs (numT m a b 0 (ts3.take k) ++ [(κ, m + k, a, b, s)])) ∧ Sep v (.slice (some adk) n4 ek3) ∧ Sep v (.slice (some adl) n4 el3)
                              | 16 => w'.ownsRow (w.heap.size + 1) 29 5 v (k + 1) (acs (numT m a b 0 (ts3.take k) ++ [(κ, m + k, a, b, s)])) ∧ Sep v (.slice (some adk) n4 ek3) ∧ Sep v (.slice (some adl) n4 el3)
                              | _ => True) (by kernel_rfl) (by kernel_rfl) (by kernel_rfl) ?_ O ?_ ?_ ?_ ?_
                          · exact ⟨T.who, T.kinds, T.keys, T.below.drew⟩
                          · intro i kk a' b' hi hne hW hT hG
                            exact own_ext hG (hT.ext hne)
                          · intro i j kk a' b' v hi hj hne hdd haa hW hT hF
                            match j with
                            | 0 => exact hF
                            | 1 => exact hF
                            | 2 => exact hF
                            | 3 => exact hF
                            | 4 => exact hF
                            | 5 => exact hF
                            | 6 => exact hF
                            | 7 => exact hF
                            | 8 => exact hF
                            | 9 => exact hF
                            | 10 => exact hF
                            | 11 => exact hF
                            | 12 => exact hF
                            | 13 => exact hF
                            | 14 =>
                              by_cases hi15 : i = 15
                              · subst hi15; exact absurd hdd (by decide)
                              · obtain ⟨q, e1, e2⟩ := hF
                                exact ⟨q, e1, ((hT.ext hi15).block (Array.getElem?_eq_some_iff.1 e2).1).trans e2⟩
                            | 15 => exact ⟨own_ext hF.1 (hT.ext hne), hF.2⟩
                            | 16 =>
                              by_cases hi15 : i = 15
                              · subst hi15; exact absurd (haa.symm.trans (show ancB _ _ _ _ = true by kernel_rfl)) (by decide)
                              · exact ⟨own_ext hF.1 (hT.ext hi15), hF.2⟩
                            | _ + 17 => simp at hj; omega
                          · refine ⟨fun kk ρ u hkk hc hf hb hW hd hgh => ?_, ?_⟩
                            · exact yield_move _ rfl ⟨hb 9 (by kernel_rfl), hW, TrT.same _ (by decide)⟩
                            refine ⟨fun kk ρ u hkk hc hf hb hW hd hgh => ?_, ?_⟩
                            · exact yield_move _ rfl ⟨hb 10 (by kernel_rfl), hW, TrT.same _ (by decide)⟩
                            refine ⟨fun kk ρ u hkk hc hf hb hW hd hgh => ?_, ?_⟩
                            · exact yield_move _ rfl ⟨hb 18 (by kernel_rfl), hW, TrT.same _ (by decide)⟩
                            refine ⟨fun kk ρ u hkk hc hf hb hW hd hgh => ?_, ?_⟩
                            · have e0 : ρ (.tmp 107) = (.slice (some adk) n4 ek3) := hd.1 rfl rfl
                              have e1 : ρ (.tmp 108) = .int .i64 k := hd.2.1 rfl rfl
                              exact yield_value (w' := u) (.pointer (some (adk.add k))) (by simp [go_sem, hc, hf, e0, e1, hkI, hlt, IntWalk.i64_in]) ⟨rfl, hW, TrT.same _ (by decide)⟩
                            refine ⟨fun kk ρ u hkk hc hf hb hW hd hgh => ?_, ?_⟩
                            · have e0 : ρ (.tmp 109) = .pointer (some (adk.add k)) := hd.1 rfl rfl
                              have y0 := CK u hW
                              exact yield_value (w' := u) (.int .i64 κ) (by simp [go_sem, hc, hf, e0, y0]) ⟨rfl, hW, TrT.same _ (by decide)⟩
                            refine ⟨fun kk ρ u hkk hc hf hb hW hd hgh => ?_, ?_⟩
                            · exact yield_move _ rfl ⟨hb 1 (by kernel_rfl), hW, TrT.same _ (by decide)⟩
                            refine ⟨fun kk ρ u hkk hc hf hb hW hd hgh => ?_, ?_⟩
                            · exact yield_move _ rfl ⟨hb 18 (by kernel_rfl), hW, TrT.same _ (by decide)⟩
                            refine ⟨fun kk ρ u hkk hc hf hb hW hd hgh => ?_, ?_⟩
                            · have e0 : ρ (.tmp 111) = .int .i64 m := hd.1 rfl rfl
                              have e1 : ρ (.tmp 112) = .int .i64 k := hd.2.1 rfl rfl
                              exact yield_value (w' := u) (.int .i64 (m + k)) (by simp [go_sem, hc, hf, e0, e1, IntWalk.i64_in, hmk]) ⟨rfl, hW, TrT.same _ (by decide)⟩
                            refine ⟨fun kk ρ u hkk hc hf hb hW hd hgh => ?_, ?_⟩
                            · have e0 : ρ (.tmp 4) = .pointer (some ⟨w.heap.size, 0, none⟩) := hb 4 (by kernel_rfl)
                              have y0 := cell_of_row u w.heap.size 0 _ _ _ hW.who
                              have y1 := cell_of_row u w.heap.size 1 _ _ _ hW.who
                              exact yield_value (w' := u) (hdA a b) (by simp [go_sem, hc, hf, e0, y0, y1]) ⟨rfl, hW, TrT.same _ (by decide)⟩
                            refine ⟨fun kk ρ u hkk hc hf hb hW hd hgh => ?_, ?_⟩
                            · exact yield_move _ rfl ⟨hb 11 (by kernel_rfl), hW, TrT.same _ (by decide)⟩
                            refine ⟨fun kk ρ u hkk hc hf hb hW hd hgh => ?_, ?_⟩
                            · exact yield_move _ rfl ⟨hb 18 (by kernel_rfl), hW, TrT.same _ (by decide)⟩
                            refine ⟨fun kk ρ u hkk hc hf hb hW hd hgh => ?_, ?_⟩
                            · have e0 : ρ (.tmp 115) = (.slice (some adl) n4 el3) := hd.1 rfl rfl
                              have e1 : ρ (.tmp 116) = .int .i64 k := hd.2.1 rfl rfl
                              exact yield_value (w' := u) (.pointer (some (adl.add k))) (by simp [go_sem, hc, hf, e0, e1, hkI, hlt, IntWalk.i64_in]) ⟨rfl, hW, TrT.same _ (by decide)⟩
                            refine ⟨fun kk ρ u hkk hc hf hb hW hd hgh => ?_, ?_⟩
                            · have e0 : ρ (.tmp 117) = .pointer (some (adl.add k)) := hd.1 rfl rfl
                              have y0 := CL u hW
                              exact yield_value (w' := u) (.string s) (by simp [go_sem, hc, hf, e0, y0]) ⟨rfl, hW, TrT.same _ (by decide)⟩
                            refine ⟨fun kk ρ u hkk hc hf hb hW hd hgh => ?_, ?_⟩
                            · have e0 : ρ (.tmp 110) = .int .i64 κ := hd.1 rfl rfl
                              have e1 : ρ (.tmp 113) = .int .i64 (m + k) := hd.2.1 rfl rfl
                              have e2 : ρ (.tmp 114) = hdA a b := hd.2.2.1 rfl rfl
                              have e3 : ρ (.tmp 118) = .string s := hd.2.2.2.1 rfl rfl
                              exact yield_value (w' := u) (acA κ (m + k) a b s) (by simp [go_sem, hc, hf, e0, e1, e2, e3]) ⟨rfl, hW, TrT.same _ (by decide)⟩
                            refine ⟨fun kk ρ u hkk hc hf hb hW hd hgh => ?_, ?_⟩
                            · have e0 : ρ (.tmp 119) = acA κ (m + k) a b s := hd.1 rfl rfl
                              have x := (Ext.of.refl u).alloc (.cells (acC (κ, m + k, a, b, s)).toArray 29)
                              exact yield_value (w' := u.alloc (.cells (acC (κ, m + k, a, b, s)).toArray 29)) (.slice (some ⟨u.heap.size, 0, none⟩) 1 1) (by simp [go_sem, hc, hf, e0]) ⟨⟨_, rfl, alloc_new' rfl⟩, hW.ext x, TrT.mk x (by decide)⟩
                            refine ⟨fun kk ρ u hkk hc hf hb hW hd hgh => ?_, ?_⟩
                            · have O1 : u.ownsRow (w.heap.size + 1) 29 5 (.slice C k e') k (acs (numT m a b 0 (ts3.take k))) := hgh (by kernel_rfl)
                              have e0 : ρ (.tmp 106) = .slice C k e' := hd.1 rfl rfl
                              obtain ⟨q, e1, hqc⟩ : ∃ q : Nat, ρ (.tmp 120) = .slice (some ⟨q, 0, none⟩) 1 1 ∧ u.heap[q]? = some (.cells (acC (κ, m + k, a, b, s)).toArray 29 (0, 0)) := hd.2.1 rfl rfl
                              refine yield_append (.tmp 106) (.tmp 120) eltActivity rfl (w.heap.size + 1) _ k _ e0 O1 (some ⟨q, 0, none⟩) 1 1 (acC (κ, m + k, a, b, s)) e1 (see_lit hqc) (by simp) rfl (acC_one _) (by unfold maxLen; omega) (by omega) (Array.getElem?_eq_some_iff.1 hW.who).1 ?_
                              intro v' w' O2 G H
                              rw [show acs (numT m a b 0 (ts3.take k)) ++ acC (κ, m + k, a, b, s) = acs (numT m a b 0 (ts3.take k) ++ [(κ, m + k, a, b, s)]) by simp [flat]] at O2
                              exact ⟨⟨O2, s1.next H fun j e => (hW.kinds.lt j e).2, s2.next H fun j e => (hW.keys.lt j e).2⟩, hW.grown O1 s1 s2 G, (show TrT (Value.slice C k e').ownBlock 15 u w' by unfold TrT; rw [if_pos rfl]; exact G)⟩
                            refine ⟨fun kk ρ u hkk hc hf hb hW hd hgh => ?_, ?_⟩
                            · exact yield_assign _ rfl ⟨hd.1 rfl rfl, hW, TrT.same _ (by decide)⟩
                            trivial
                          intro env w5 hW hF
                          obtain ⟨O5, t1, t2⟩ : w5.ownsRow (w.heap.size + 1) 29 5 (env 16) (k + 1) (acs (numT m a b 0 (ts3.take k) ++ [(κ, m + k, a, b, s)])) ∧ Sep (env 16) (.slice (some adk) n4 ek3) ∧ Sep (env 16) (.slice (some adl) n4 el3) := hF 16 (of_decide_eq_true (by kernel_rfl)) (fun i hi => by match i with | 0 | 1 | 2 | 3 | 4 | 5 | 6 | 7 | 8 | 9 | 10 | 11 | 12 | 13 | 14 | 15 | 16 => rfl | _ + 17 => simp at hi; omega)
                          clear hF
                          have hr : List.range 123 = [0, 1, 2, 3, 4, 5, 6, 7, 8, 9, 10, 11, 12, 13, 14, 15, 16, 17, 18, 19, 20, 21, 22, 23, 24, 25, 26, 27, 28, 29, 30, 31, 32, 33, 34, 35, 36, 37, 38, 39, 40, 41, 42, 43, 44, 45, 46, 47, 48, 49, 50, 51, 52, 53, 54, 55, 56, 57, 58, 59, 60, 61, 62, 63, 64, 65, 66, 67, 68, 69, 70, 71, 72, 73, 74, 75, 76, 77, 78, 79, 80, 81, 82, 83, 84, 85, 86, 87, 88, 89, 90, 91, 92, 93, 94, 95, 96, 97, 98, 99, 100, 101, 102, 103, 104, 105, 106, 107, 108, 109, 110, 111, 112, 113, 114, 115, 116, 117, 118, 119, 120, 121, 122] := by kernel_rfl
                          unfold after
                          simp only [List.size_toArray, List.length_cons, List.length_nil, Nat.reduceAdd, hr, List.map_cons, List.map_nil]
                          simp [idxOf, List.findIdx?, List.findIdx?.go]
                          clear hr O CK CL
                          rw [← N.out] at O5
                          obtain ⟨B5, d5, e5, _⟩ := own_form O5
                          rw [e5] at O5 t1 t2 ⊢
                          clear e5
                          go_wp2_with fail
                          refine ⟨?_, ?measure⟩
                          · (repeat apply Exists.intro)
                            refine ⟨?rel, rfl⟩
                            exact ⟨k + 1, by omega, by go_num, O5, t1, t2, hW⟩
                          case measure => simp [intOf]; omega
                        · have hke : k = n4 := by omega
                          have RQ := hid (show tellV a b m xs ys = numT m a b 0 (ts3.take k) by rw [RR.out, hke, HTL.out])
                          have t0 : decide ((k : Int) < (n4 : Int)) = false := by simp; omega
                          have hB := T.below
                          clear hke T s1 s2
                          go_wp2_with fail
                          go_ret
                          exact ⟨C, k, e', rfl, by rw [RQ.out]; exact own_lower O (by omega), hB⟩
end Go.Proofs.Ytlfjnaeepblhiaa
