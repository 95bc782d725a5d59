/- The contract of the draw of an inbox. -/
import Derived.Test.YtoagpfdhbcgdcaaDoorTakeS
import Derived.Test.YtoagpfdhbcgdcaaDoorTrSt
import Derived.Test.YtoagpfdhbcgdcaaDoorG3
import Derived.Test.YtoagpfdhbcgdcaaDoorDrawAc
namespace Go.Proofs.YtoagpfdhbcgdcaaDoor
open Go.RowKit
set_option linter.unusedVariables false
set_option linter.unusedSimpArgs false
set_option maxRecDepth 8000
theorem tkF_ok {xs : List Hd} {zs : List Int} {kd mk : Int} {a b s : ByteArray} (h : hdOk xs) (ha : a.size ≤ 9223372036854775807) (hb : b.size ≤ 9223372036854775807) : hdOk (tkF xs zs kd mk a b s) := by
  by_cases hh : ibV xs zs = true ∧ avalV kd mk a b s = true
  · have hff := (ib_parts hh.1).1
    by_cases hd : adig kd mk a b s ∈ zs
    · rw [(tk_old hh.1 hh.2 hd).1]; exact h
    · rw [(tk_new hh.1 hh.2 hd).1]
      split
      · cases hm : folV (insL xs (a, b)) with
        | true => rw [follow_yes hff hm]; exact insL_ok h ha hb
        | false => rw [follow_not hff hm]; exact h
      · split
        · rw [unfollow_yes hff]; exact fun x hx => h x (List.mem_filter.1 hx).1
        · exact h
  · rw [(tk_no hh).1]; intro x hx; cases hx
theorem tkF_len1 (xs : List Hd) (zs : List Int) (kd mk : Int) (a b s : ByteArray) : (tkF xs zs kd mk a b s).length ≤ xs.length + 1 := by
  by_cases h : ibV xs zs = true ∧ avalV kd mk a b s = true
  · have hff := (ib_parts h.1).1
    by_cases hd : adig kd mk a b s ∈ zs
    · rw [(tk_old h.1 h.2 hd).1]; omega
    · rw [(tk_new h.1 h.2 hd).1]
      split
      · have := insL_len xs (a, b)
        cases hm : folV (insL xs (a, b)) with
        | true => rw [follow_yes hff hm]; exact this
        | false => rw [follow_not hff hm]; simp only; omega
      · split
        · rw [unfollow_yes hff]
          have : (remL xs (a, b)).length ≤ xs.length := List.length_filter_le _ _
          simp only; omega
        · omega
  · rw [(tk_no h).1]; simp
theorem tkZ_len1 (xs : List Hd) (zs : List Int) (kd mk : Int) (a b s : ByteArray) : (tkZ xs zs kd mk a b s).length ≤ zs.length + 1 := by
  by_cases h : ibV xs zs = true ∧ avalV kd mk a b s = true
  · by_cases hd : adig kd mk a b s ∈ zs
    · rw [(tk_old h.1 h.2 hd).2.1]; omega
    · rw [(tk_new h.1 h.2 hd).2.1]
      split <;> simp
  · rw [(tk_no h).2.1]; simp
/-- An inbox of rows of the call's own, of at most L things each. -/
def DrIb (N L : Nat) (v : Value) (w : World) : Prop := ∃ C n c D m d xs zs, v = ibA C n c D m d ∧ w.ownsRow N 28 2 (.slice C n c) n (hds xs) ∧ w.ownsRow N 3 1 (.slice D m d) m (ints zs) ∧ hdOk xs ∧ n ≤ L ∧ m ≤ L
def DrIn (N L g : Nat) (w : World) : Prop := ∃ C n c D m d xs zs, w.heap[g]? = some (.cells #[.slice C n c, .slice D m d] 26 (0, 0)) ∧ w.ownsRow N 28 2 (.slice C n c) n (hds xs) ∧ w.ownsRow N 3 1 (.slice D m d) m (ints zs) ∧ hdOk xs ∧ n ≤ L ∧ m ≤ L
theorem DrIb.turn {N L g : Nat} {v : Value} {a b : World} (h : DrIb N L v a) (G : a.grownBy b (some g)) (hg : g < N) : DrIb N L v b := by
  obtain ⟨C, n, c, D, m, d, xs, zs, e, o1, o2, r⟩ := h
  exact ⟨C, n, c, D, m, d, xs, zs, e, own_row o1 G (by rintro _ ⟨rfl⟩; exact hg), own_row o2 G (by rintro _ ⟨rfl⟩; exact hg), r⟩
theorem DrIb.st {N L : Nat} {v : Value} {a b : World} (h : DrIb N L v a) (S : StIb a b) : DrIb N L v b := by
  obtain ⟨C, n, c, D, m, d, xs, zs, e, o1, o2, r⟩ := h
  exact ⟨C, n, c, D, m, d, xs, zs, e, S.own o1 (by decide), S.own o2 (by decide), r⟩
theorem DrIn.turn {N L g q : Nat} {a b : World} (h : DrIn N L q a) (G : a.grownBy b (some g)) (hg : g < N) (hq : q ≠ g) : DrIn N L q b := by
  obtain ⟨C, n, c, D, m, d, xs, zs, e, o1, o2, r⟩ := h
  exact ⟨C, n, c, D, m, d, xs, zs, (G.block _ (Array.getElem?_eq_some_iff.1 e).1 (fun e => hq (by injection e))).trans e, own_row o1 G (by rintro _ ⟨rfl⟩; exact hg), own_row o2 G (by rintro _ ⟨rfl⟩; exact hg), r⟩
theorem DrIb.stored {N L g : Nat} {v : Value} {a : World} (h : DrIb N L v a) {c0 c1 : Value} (hg : a.heap[g]? = some (.cells #[c0, c1] 26 (0, 0))) :
    ∃ C n c D m d, v = ibA C n c D m d ∧ DrIn N L g ((a.setCell ⟨g, 0, none⟩ (.slice C n c)).setCell ⟨g, 1, none⟩ (.slice D m d)) := by
  obtain ⟨C, n, c, D, m, d, xs, zs, e, o1, o2, r⟩ := h
  have hs : StIb a ((a.setCell ⟨g, 0, none⟩ (.slice C n c)).setCell ⟨g, 1, none⟩ (.slice D m d)) := ⟨g, c0, c1, _, _, hg, rfl⟩
  exact ⟨C, n, c, D, m, d, e, C, n, c, D, m, d, xs, zs, set_ib1 (set_ib0 hg), hs.own o1 (by decide), hs.own o2 (by decide), r⟩
theorem StIb.grown {a : World} {g : Nat} {v0 v1 : Value} : a.grownBy ((a.setCell ⟨g, 0, none⟩ v0).setCell ⟨g, 1, none⟩ v1) (some g) :=
  ⟨rfl, rfl, rfl, by simp, fun k _ hk => by
    have hk' : k ≠ g := fun e => hk (by rw [e])
    rw [heap_setCell_other _ ⟨g, 1, none⟩ k _ hk', heap_setCell_other _ ⟨g, 0, none⟩ k _ hk']⟩
/-- Behind a turn of what lies from N on: what lay ahead of it has turned at g alone. -/
theorem grown_late {w a b : World} {g k : Nat} (h : w.grownBy a (some g)) (G : a.grownBy b (some k)) (hk : w.heap.size ≤ k) : w.grownBy b (some g) :=
  ⟨G.os.trans h.os, G.tape.trans h.tape, G.output.trans h.output, Nat.le_trans h.size G.size, fun j hj hne => (G.block j (Nat.lt_of_lt_of_le hj h.size) (fun e => by injection e with e; omega)).trans (h.block j hj hne)⟩
theorem yield_skip {P : Program} {o : Oper} {ρ : Operand → Value} {w w' : World} {R : Value → World → Prop} (h : (execOp ρ o).run P w = .ok .skip w') (hR : R undef w') : Yield P o ρ w R := by
  unfold Yield; rw [h]; exact hR
theorem setCell_grown (a : World) (g i : Nat) (v : Value) : a.grownBy (a.setCell ⟨g, i, none⟩ v) (some g) := ⟨rfl, rfl, rfl, by simp, fun k _ hk => heap_setCell_other a ⟨g, i, none⟩ k v (fun e => hk (by rw [e]))⟩
theorem hdOk_more {xs : List Hd} (h : hdOk xs) : hdOk (xs ++ [((⟨#[]⟩ : ByteArray), (⟨#[]⟩ : ByteArray))]) := by
  intro x hx
  rw [List.mem_append, List.mem_singleton] at hx
  rcases hx with hx | rfl
  · exact h x hx
  · exact ⟨by decide, by decide⟩
/-- The region that appends a digest and stores the digests: how worlds turn there. -/
def TrX (g bx : Nat) (r : Option Nat) (i : Nat) (a b : World) : Prop := if i = 10 then ∃ v, b = a.setCell ⟨bx, 1, none⟩ v else if i = 8 then a.grownBy b r else a.grownBy b (some g)
theorem TrX.turn {g bx i : Nat} {r : Option Nat} {a b : World} (h : TrX g bx r i a b) (h1 : i ≠ 10) (h2 : i ≠ 8) : a.grownBy b (some g) := by unfold TrX at h; rwa [if_neg h1, if_neg h2] at h
theorem TrX.mk {g bx i : Nat} {r : Option Nat} {a b : World} (h : a.grownBy b (some g)) (h1 : i ≠ 10) (h2 : i ≠ 8) : TrX g bx r i a b := by unfold TrX; rwa [if_neg h1, if_neg h2]
theorem TrX.blk {g bx i N B : Nat} {r : Option Nat} {a b : World} {o : Obj} (h : TrX g bx r i a b) (hB : N ≤ B) (hg : g < N) (hb : bx < N) (hr : ∀ k, r = some k → k < N) (ho : a.heap[B]? = some o) : b.heap[B]? = some o := by
  have hlt := (Array.getElem?_eq_some_iff.1 ho).1
  unfold TrX at h
  split at h
  · obtain ⟨v, rfl⟩ := h
    exact set_else (by omega) ho
  · split at h
    · exact (h.block _ hlt (fun e => by have := hr B e.symm; omega)).trans ho
    · exact (h.block _ hlt (fun e => by injection e with e; omega)).trans ho
def TrD (g st d i : Nat) (a b : World) : Prop := if i = st then StIb a b ∧ (∀ p, Rd a g p → Rd b g p) else a.grownBy b (some g) ∧ (i ≠ d → ∀ p, Rd a g p → Rd b g p)
theorem TrD.other {g st d i : Nat} {a b : World} (h : TrD g st d i a b) (hi : i ≠ st) : a.grownBy b (some g) := by unfold TrD at h; rw [if_neg hi] at h; exact h.1
theorem TrD.store {g st d : Nat} {a b : World} (h : TrD g st d st a b) : StIb a b := by unfold TrD at h; rw [if_pos rfl] at h; exact h.1
theorem TrD.rd {g st d i : Nat} {a b : World} (h : TrD g st d i a b) (hi : i ≠ d) {p : Nat} (hr : Rd a g p) : Rd b g p := by
  unfold TrD at h
  by_cases e : i = st
  · rw [if_pos e] at h; exact h.2 p hr
  · rw [if_neg e] at h; exact h.2 hi p hr
theorem TrD.drawn {g st d : Nat} {a b : World} (hi : d ≠ st) (h : a.grownBy b (some g)) : TrD g st d d a b := by unfold TrD; rw [if_neg hi]; exact ⟨h, fun e => absurd rfl e⟩
theorem TrD.ext {g st d i : Nat} {a b : World} (hi : i ≠ st) (h : Ext.of a b) : TrD g st d i a b := by unfold TrD; rw [if_neg hi]; exact ⟨grown_of_below h.below _, fun _ p hr => hr.below h.below⟩
theorem TrD.mk {g st d q : Nat} {a : World} {c0 c1 v0 v1 : Value} (h : a.heap[q]? = some (.cells #[c0, c1] 26 (0, 0))) (hq : g < q) : TrD g st d st a ((a.setCell ⟨q, 0, none⟩ v0).setCell ⟨q, 1, none⟩ v1) := by
  unfold TrD; rw [if_pos rfl]; exact ⟨⟨q, c0, c1, v0, v1, h, rfl⟩, fun p hr => hr.grown StIb.grown (by rintro _ ⟨rfl⟩; exact hq)⟩
set_option maxHeartbeats 8000000 in
theorem inbox_any (g p : Nat) (n : Int) (w : World) (h : Rd w g p) (hp : p ≤ 60000) (h1 : 0 ≤ n) (h2 : n ≤ 1048576) :
    Calls Tryd.prog 28 #[.pointer (some ⟨g, 0, none⟩), .int .i64 n] w fun e' w' => ∃ v, e' = .returned v ∧ DrIb w.heap.size 9 v w' ∧ Turn w w' g 0 (p + 4400) := by
  have hgl := h.lt
  have hr : ((w.alloc (.cells #[.slice none 0 0, .slice none 0 0] 26)).alloc (.cells #[.slice none 0 0, .slice none 0 0] 26)).heap[w.heap.size]? = some (.cells #[.slice none 0 0, .slice none 0 0] 26 (0, 0)) := alloc_old (alloc_new' rfl)
  have hx : ((w.alloc (.cells #[.slice none 0 0, .slice none 0 0] 26)).alloc (.cells #[.slice none 0 0, .slice none 0 0] 26)).heap[w.heap.size + 1]? = some (.cells #[.slice none 0 0, .slice none 0 0] 26 (0, 0)) := alloc_new' (by simp)
  have G0 : w.grownBy ((w.alloc (.cells #[.slice none 0 0, .slice none 0 0] 26)).alloc (.cells #[.slice none 0 0, .slice none 0 0] 26)) (some g) := (World.grownBy_alloc _ _ _).trans (World.grownBy_alloc _ _ _)
  have R0 : Rd ((w.alloc (.cells #[.slice none 0 0, .slice none 0 0] 26)).alloc (.cells #[.slice none 0 0, .slice none 0 0] 26)) g p := (h.alloc _).alloc _
  go_enter Tryd.func28, Tryd.ntmps28
  go_wp2_with fail
  generalize ((w.alloc (.cells #[.slice none 0 0, .slice none 0 0] 26)).alloc (.cells #[.slice none 0 0, .slice none 0 0] 26)) = V at *
  refine (pick_any g p 9 _ R0 (by omega) (by omega) (by omega)).mono ?_
  rintro e' w1 ⟨q, rfl, q0, q1, R1, G1⟩
  obtain ⟨k0, rfl⟩ := Int.eq_ofNat_of_zero_le q0
  have hr := (G1.block _ (Array.getElem?_eq_some_iff.1 hr).1 (fun e => by injection e with e; omega)).trans hr
  have hx := (G1.block _ (Array.getElem?_eq_some_iff.1 hx).1 (fun e => by injection e with e; omega)).trans hx
  have G1 := G0.trans G1
  clear G0 R0 h
  go_wp2_with fail
  go_loopw [6] (fun i wr => ∃ (k p' n' c' m' d' : Nat) (C D : Option Addr) (xs : List Hd) (zs : List Int), i = .int .i64 k ∧ wr.heap[w.heap.size]? = some (.cells #[.slice none 0 0, .slice none 0 0] 26 (0, 0)) ∧ wr.heap[w.heap.size + 1]? = some (.cells #[.slice C n' c', .slice D m' d'] 26 (0, 0)) ∧ wr.ownsRow w.heap.size 28 2 (.slice C n' c') n' (hds xs) ∧ wr.ownsRow w.heap.size 3 1 (.slice D m' d') m' (ints zs) ∧ hdOk xs ∧ n' + k ≤ 8 ∧ m' + k ≤ 8 ∧ Rd wr g p' ∧ p' + 540 * k ≤ p + 4321 ∧ w.grownBy wr (some g)) (fun i _ => (intOf i).toNat)
  case atStart => exact ⟨k0, p + 1, 0, 0, 0, 0, none, none, [], [], rfl, hr, hx, World.ownsRow_nil _ _ _ _, World.ownsRow_nil _ _ _ _, (fun x hx => by cases hx), by omega, by omega, R1, by omega, G1⟩
  case round =>
    obtain ⟨k, p', n', c', m', d', C, D, xs, zs, rfl, hr, hx, o1, o2, hok, hn, hm, R, hpp, G⟩ := hrel
    clear R1 G1
    by_cases hk0 : 0 < k
    · have x0 := cell_of_row _ (w.heap.size + 1) 0 _ _ _ hx
      have x1 := cell_of_row _ (w.heap.size + 1) 1 _ _ _ hx
      have hwr := (Array.getElem?_eq_some_iff.1 hx).1
      have HK := hid (show n' + 1 ≤ 9 ∧ m' + 1 ≤ 9 ∧ m' < 12 from ⟨by omega, by omega, by omega⟩)
      have HL := hid (show xs.length = n' ∧ zs.length = m' from ⟨(own_count o1 hdC_len (by omega)).symm, by have := (own_sl o2).len; simpa using this⟩)
      go_wp2_with fail
      refine wp_region_envg (d := 2) (G := fun u => Rd u g p') (W := fun _ w' => ∃ p'', p'' ≤ p' + 530 ∧ Rd w' g p'' ∧ wr.grownBy w' (some g)) (dead := fun i j => i == 8 && (j == 0 || j == 1 || j == 2 || j == 3 || j == 5)) (Tr := TrD g 8 2) (F := fun i env w' => match i with
          | 0 => env 0 = ibA C n' c' D m' d'
          | 1 => env 1 = .pointer (some ⟨g, 0, none⟩)
          | 2 => ∃ kd mk a b s, env 2 = acA kd mk a b s ∧ (a.size ≤ 200 ∧ b.size ≤ 200 ∧ s.size ≤ 200)
          | 3 => ∃ v q, env 3 = .tuple #[v, .int .i64 q] ∧ DrIb wr.heap.size (9 - k) v w'
          | 4 => ∃ v q, env 4 = .tuple #[v, .int .i64 q] ∧ DrIb wr.heap.size (9 - k) v w'
          | 5 => ∃ v, env 5 = v ∧ DrIb wr.heap.size (9 - k) v w'
          | 6 => ∃ q, env 6 = .int .i64 q ∧ True
          | 7 => ∃ b, env 7 = .pointer (some ⟨b, 0, none⟩) ∧ (wr.heap.size ≤ b ∧ ∃ c0 c1, w'.heap[b]? = some (.cells #[c0, c1] 26 (0, 0)))
          | 8 => ∃ b, env 7 = .pointer (some ⟨b, 0, none⟩) ∧ (wr.heap.size ≤ b ∧ DrIn wr.heap.size (9 - k) b w')
          | 9 => ∃ q, env 9 = .int .i64 q ∧ True
          | _ => True) (by kernel_rfl) (by kernel_rfl) (by kernel_rfl) ?_ (R.drewN 1) ?_ ?_ ?_ ?_ ?_
      · exact ⟨p', by omega, R.drewN 1, ⟨rfl, rfl, rfl, Nat.le_refl _, fun _ _ _ => rfl⟩⟩
      · intro i kk a b hi hne hna hW hT hG
        exact hT.rd hne hG
      · intro j env env' w hj he hF
        match j with
        | 0 => exact (he 0 (.inl rfl)).symm.trans hF
        | 1 => exact (he 1 (.inl rfl)).symm.trans hF
        | 2 => obtain ⟨kd, mk, a, b, s, e, r⟩ := hF; exact ⟨kd, mk, a, b, s, (he 2 (.inl rfl)).symm.trans e, r⟩
        | 3 => obtain ⟨v, q, e, r⟩ := hF; exact ⟨v, q, (he 3 (.inl rfl)).symm.trans e, r⟩
        | 4 => obtain ⟨v, q, e, r⟩ := hF; exact ⟨v, q, (he 4 (.inl rfl)).symm.trans e, r⟩
        | 5 => obtain ⟨v, e, r⟩ := hF; exact ⟨v, (he 5 (.inl rfl)).symm.trans e, r⟩
        | 6 => obtain ⟨q, e, r⟩ := hF; exact ⟨q, (he 6 (.inl rfl)).symm.trans e, r⟩
        | 7 => obtain ⟨b, e, r⟩ := hF; exact ⟨b, (he 7 (.inl rfl)).symm.trans e, r⟩
        | 8 => obtain ⟨b, e, r⟩ := hF; exact ⟨b, (he 7 (.inr (by kernel_rfl))).symm.trans e, r⟩
        | 9 => obtain ⟨q, e, r⟩ := hF; exact ⟨q, (he 9 (.inl rfl)).symm.trans e, r⟩
        | _ + 10 => exact hF
      · intro i j kk env a b hi hj hne hdd haa hW hT hF
        by_cases es : i = 8
        · subst es
          have hS := hT.store
          match j with
          | 0 => exact absurd hdd (by decide)
          | 1 => exact absurd hdd (by decide)
          | 2 => exact absurd hdd (by decide)
          | 3 => exact absurd hdd (by decide)
          | 4 => obtain ⟨v, q, e, h⟩ := hF; exact ⟨v, q, e, h.st hS⟩
          | 5 => exact absurd hdd (by decide)
          | 6 => exact hF
          | 7 => obtain ⟨b, e, h1, h2⟩ := hF; exact ⟨b, e, h1, hS.blk h2⟩
          | 8 => exact absurd rfl hne
          | 9 => exact hF
          | _ + 10 => exact hF
        · have hB := hT.other es
          match j with
          | 0 => exact hF
          | 1 => exact hF
          | 2 => exact hF
          | 3 => obtain ⟨v, q, e, h⟩ := hF; exact ⟨v, q, e, h.turn hB (by omega)⟩
          | 4 => obtain ⟨v, q, e, h⟩ := hF; exact ⟨v, q, e, h.turn hB (by omega)⟩
          | 5 => obtain ⟨v, e, h⟩ := hF; exact ⟨v, e, h.turn hB (by omega)⟩
          | 6 => exact hF
          | 7 => obtain ⟨b, e, h1, c0, c1, h2⟩ := hF; exact ⟨b, e, h1, c0, c1, (hB.block _ (Array.getElem?_eq_some_iff.1 h2).1 (fun e => by injection e with e; omega)).trans h2⟩
          | 8 =>
            obtain ⟨b, e, h1, h2⟩ := hF; exact ⟨b, e, h1, h2.turn hB (by omega) (by omega)⟩
          | 9 => exact hF
          | _ + 10 => exact hF
      · refine ⟨fun kk ρ env u hk hc hf hg ht hW hd hG => ?_, ?_⟩
        · have p0 : ρ (.tmp 5) = .pointer (some ⟨w.heap.size + 1, 0, none⟩) := (ht 5).trans (by kernel_rfl)
          obtain ⟨p'', hp2, hR, hG2⟩ := hW
          have y0 := hG2.cell x0 (by intro e; injection e with e; dsimp at e; omega)
          have y1 := hG2.cell x1 (by intro e; injection e with e; dsimp at e; omega)
          exact yield_value (w' := u) (ibA C n' c' D m' d') (by simp [go_sem, hc, hf, p0, y0, y1]) ⟨upd_same _ _ _, ⟨p'', hp2, hR, hG2⟩, TrD.ext (by decide) (Ext.of.refl _)⟩
        refine ⟨fun kk ρ env u hk hc hf hg ht hW hd hG => ?_, ?_⟩
        · have p0 : ρ (.tmp 0) = .pointer (some ⟨g, 0, none⟩) := (ht 0).trans (by kernel_rfl)
          exact yield_move _ rfl ⟨(upd_same _ _ _).trans p0, hW, TrD.ext (by decide) (Ext.of.refl _)⟩
        refine ⟨fun kk ρ env u hk hc hf hg ht hW hd hG => ?_, ?_⟩
        · have e1 : ρ (.tmp 18) = env 1 := (ht 18).trans (by kernel_rfl)
          have q1 : env 1 = .pointer (some ⟨g, 0, none⟩) := hd.1 rfl
          rw [q1] at e1
          obtain ⟨p'', hp2, _, hG2⟩ := hW
          have hR : Rd u g p' := hG rfl
          refine yield_call 29 #[.pointer (some ⟨g, 0, none⟩), .int .i64 0] (by simp [go_sem, hc, hf, e1]) ?_
          refine (activity_any g p' 0 _ hR (by omega) (by omega) (by omega)).mono ?_
          rintro e' w' ⟨kd, mk, a, b, s, rfl, ha, hb, hs, p3, l0, l1, R3, G3⟩
          exact ⟨_, rfl, ⟨kd, mk, a, b, s, upd_same _ _ _, ha, hb, hs⟩, ⟨p3, by omega, R3, hG2.trans G3⟩, TrD.drawn (by decide) G3⟩
        refine ⟨fun kk ρ env u hk hc hf hg ht hW hd hG => ?_, ?_⟩
        · have e0 : ρ (.tmp 17) = env 0 := (ht 17).trans (by kernel_rfl)
          have q0 : env 0 = ibA C n' c' D m' d' := hd.1 rfl
          rw [q0] at e0
          have e2 : ρ (.tmp 19) = env 2 := (ht 19).trans (by kernel_rfl)
          obtain ⟨kd, mk, a, b, s, q2, ha, hb, hs⟩ : ∃ kd mk a b s, env 2 = acA kd mk a b s ∧ (a.size ≤ 200 ∧ b.size ≤ 200 ∧ s.size ≤ 200) := hd.2.1 rfl
          rw [q2] at e2
          obtain ⟨p'', hp2, hR, hG2⟩ := hW
          have s1 := own_sl (own_row o1 hG2 (by rintro _ ⟨rfl⟩; exact hgl))
          have s2 := own_sl (own_row o2 hG2 (by rintro _ ⟨rfl⟩; exact hgl))
          refine yield_call 9 #[ibA C n' c' D m' d', acA kd mk a b s] (by simp [go_sem, hc, hf, e0, e2]) ?_
          refine (takeS_any _ _ _ xs _ _ _ zs kd mk a b s _ s1 hok s2 (by omega) (by omega) (by omega)).mono ?_
          rintro e' w' ⟨⟨C1, n1, c1, D1, m1, d1, rfl, t1, _, _, t2⟩, hb2⟩
          have t2 := t2 (by rw [HL.out.2]; exact HK.out.2.2)
          have l1 := tkF_len1 xs zs kd mk a b s
          have l2 := tkZ_len1 xs zs kd mk a b s
          have c1 := own_count t1 hdC_len (by omega)
          have c2 : (tkZ xs zs kd mk a b s).length = m1 := by have := (own_sl t2).len; simpa using this
          have hz := hG2.size
          have hk1 := HK.out
          have hl1 := HL.out
          exact ⟨_, rfl, ⟨_, _, upd_same _ _ _, C1, n1, _, D1, m1, d1, _, _, rfl, own_lower t1 hz, own_lower t2 hz, tkF_ok hok (by omega) (by omega), by omega, by omega⟩, ⟨p'', hp2, hR.below hb2, hG2.trans (grown_of_below hb2 _)⟩, TrD.ext (by decide) (Ext.of_below hb2)⟩
        refine ⟨fun kk ρ env u hk hc hf hg ht hW hd hG => ?_, ?_⟩
        · have e3 : ρ (.tmp 20) = env 3 := (ht 20).trans (by kernel_rfl)
          obtain ⟨v, q, q0, h⟩ : ∃ v q, env 3 = .tuple #[v, .int .i64 q] ∧ DrIb wr.heap.size (9 - k) v u := hd.1 rfl
          rw [q0] at e3
          exact yield_move _ rfl ⟨⟨v, q, (upd_same _ _ _).trans e3, h⟩, hW, TrD.ext (by decide) (Ext.of.refl _)⟩
        refine ⟨fun kk ρ env u hk hc hf hg ht hW hd hG => ?_, ?_⟩
        · have e4 : ρ (.tmp 16) = env 4 := (ht 16).trans (by kernel_rfl)
          obtain ⟨v, q, q0, h⟩ : ∃ v q, env 4 = .tuple #[v, .int .i64 q] ∧ DrIb wr.heap.size (9 - k) v u := hd.1 rfl
          rw [q0] at e4
          exact yield_value (w' := u) v (by simp [go_sem, hc, hf, e4]) ⟨⟨v, upd_same _ _ _, h⟩, hW, TrD.ext (by decide) (Ext.of.refl _)⟩
        refine ⟨fun kk ρ env u hk hc hf hg ht hW hd hG => ?_, ?_⟩
        · have e4 : ρ (.tmp 16) = env 4 := (ht 16).trans (by kernel_rfl)
          obtain ⟨v, q, q0, h⟩ : ∃ v q, env 4 = .tuple #[v, .int .i64 q] ∧ DrIb wr.heap.size (9 - k) v u := hd.1 rfl
          rw [q0] at e4
          exact yield_value (w' := u) (.int .i64 q) (by simp [go_sem, hc, hf, e4]) ⟨⟨q, upd_same _ _ _, trivial⟩, hW, TrD.ext (by decide) (Ext.of.refl _)⟩
        refine ⟨fun kk ρ env u hk hc hf hg ht hW hd hG => ?_, ?_⟩
        · obtain ⟨p'', hp2, hR, hG2⟩ := hW
          have x : Ext.of u (u.alloc (.cells #[.slice none 0 0, .slice none 0 0] 26)) := (Ext.of.refl _).alloc _
          exact yield_value (w' := u.alloc (.cells #[.slice none 0 0, .slice none 0 0] 26)) (.pointer (some ⟨u.heap.size, 0, none⟩)) (by simp [go_sem, hc, hf]) ⟨⟨u.heap.size, upd_same _ _ _, hG2.size, _, _, alloc_new' rfl⟩, ⟨p'', hp2, hR.below x.below, hG2.trans (grown_of_below x.below _)⟩, TrD.ext (by decide) x⟩
        refine ⟨fun kk ρ env u hk hc hf hg ht hW hd hG => ?_, ?_⟩
        · have e7 : ρ (.tmp 7) = env 7 := (ht 7).trans (by kernel_rfl)
          have e5 : ρ (.tmp 21) = env 5 := (ht 21).trans (by kernel_rfl)
          obtain ⟨b, qb, hbN, c0, c1, hb2⟩ : ∃ b, env 7 = .pointer (some ⟨b, 0, none⟩) ∧ (wr.heap.size ≤ b ∧ ∃ c0 c1, u.heap[b]? = some (.cells #[c0, c1] 26 (0, 0))) := hd.1 rfl
          obtain ⟨v, qv, h⟩ : ∃ v, env 5 = v ∧ DrIb wr.heap.size (9 - k) v u := hd.2.1 rfl
          rw [qb] at e7
          obtain ⟨C1, n1, c3, D1, m1, d1, rfl, hin⟩ := h.stored hb2
          rw [qv] at e5
          obtain ⟨p'', hp2, hR, hG2⟩ := hW
          have f0 := frozen_of_row u b 0 _ _ hb2
          have f1 := frozen_of_row u b 1 _ _ hb2
          have y0 := cell_of_row u b 0 _ _ _ hb2
          have y1 := cell_of_row u b 1 _ _ _ hb2
          unfold Yield
          simp [go_sem, hc, hf, e7, e5, f0, f1, y0, y1]
          exact ⟨⟨b, (upd_other env _ (by decide)).trans qb, hbN, hin⟩, ⟨p'', hp2, hR.grown StIb.grown (by rintro _ ⟨rfl⟩; omega), grown_late hG2 StIb.grown hbN⟩, TrD.mk hb2 (by omega)⟩
        refine ⟨fun kk ρ env u hk hc hf hg ht hW hd hG => ?_, ?_⟩
        · have e6 : ρ (.tmp 22) = env 6 := (ht 22).trans (by kernel_rfl)
          obtain ⟨q, q0, _⟩ : ∃ q, env 6 = .int .i64 q ∧ True := hd.1 rfl
          exact yield_assign _ rfl ⟨⟨q, (upd_same _ _ _).trans (e6.trans q0), trivial⟩, hW, TrD.ext (by decide) (Ext.of.refl _)⟩
        trivial
      intro env w5 hW hF
      obtain ⟨b, eb, hbN, hin⟩ : ∃ b, env 7 = .pointer (some ⟨b, 0, none⟩) ∧ (wr.heap.size ≤ b ∧ DrIn wr.heap.size (9 - k) b w5) := hF 8 (of_decide_eq_true (by kernel_rfl)) (fun i hi => by match i with | 0 | 1 | 2 | 3 | 4 | 5 | 6 | 7 | 8 | 9 => rfl | _ + 10 => simp at hi; omega)
      clear hF
      have hrng : List.range 52 = [0, 1, 2, 3, 4, 5, 6, 7, 8, 9, 10, 11, 12, 13, 14, 15, 16, 17, 18, 19, 20, 21, 22, 23, 24, 25, 26, 27, 28, 29, 30, 31, 32, 33, 34, 35, 36, 37, 38, 39, 40, 41, 42, 43, 44, 45, 46, 47, 48, 49, 50, 51] := by kernel_rfl
      unfold after
      simp only [List.size_toArray, List.length_cons, List.length_nil, Nat.reduceAdd, hrng, List.map_cons, List.map_nil]
      simp [idxOf, List.findIdx?, List.findIdx?.go, eb]
      clear hrng
      clear eb
      obtain ⟨p2, hp2, R2, G2⟩ := hW
      obtain ⟨C1, n1, c1, D1, m1, d1, xs1, zs1, hb, t1, t2, hok1, hn1, hm1⟩ := hin
      have hr := (G2.block _ (Array.getElem?_eq_some_iff.1 hr).1 (fun e => by injection e with e; omega)).trans hr
      have hx := (G2.block _ (Array.getElem?_eq_some_iff.1 hx).1 (fun e => by injection e with e; omega)).trans hx
      have G := G.trans G2
      have z0 := cell_of_row _ b 0 _ _ _ hb
      have z1 := cell_of_row _ b 1 _ _ _ hb
      have y0 := cell_of_row _ (w.heap.size + 1) 0 _ _ _ hx
      have y1 := cell_of_row _ (w.heap.size + 1) 1 _ _ _ hx
      have f0 := frozen_of_row _ (w.heap.size + 1) 0 _ _ hx
      have f1 := frozen_of_row _ (w.heap.size + 1) 1 _ _ hx
      have hz5 : w.heap.size ≤ wr.heap.size := by omega
      have q1 := own_setIb (i := 1) (u := .slice D1 m1 d1) (own_setIb (i := 0) (u := .slice C1 n1 c1) (own_lower t1 hz5) hx (by decide)) (set_ib0 hx) (by decide)
      have q2 := own_setIb (i := 1) (u := .slice D1 m1 d1) (own_setIb (i := 0) (u := .slice C1 n1 c1) (own_lower t2 hz5) hx (by decide)) (set_ib0 hx) (by decide)
      have hx3 := set_ib1 (v := .slice D1 m1 d1) (set_ib0 (v := .slice C1 n1 c1) hx)
      have hr3 := set_else (g := w.heap.size + 1) (i := 1) (v := .slice D1 m1 d1) (by omega) (set_else (g := w.heap.size + 1) (i := 0) (v := .slice C1 n1 c1) (by omega) hr)
      have R3 := R2.grown (StIb.grown (g := w.heap.size + 1) (v0 := .slice C1 n1 c1) (v1 := .slice D1 m1 d1)) (by rintro _ ⟨rfl⟩; omega)
      have G3 := grown_late G (StIb.grown (g := w.heap.size + 1) (v0 := .slice C1 n1 c1) (v1 := .slice D1 m1 d1)) (by omega)
      clear hr hx o1 o2 R G2 R2 G t1 t2 x0 x1 hb
      go_wp2_with fail
      go_roundw
      case rel => exact ⟨_, _, _, _, _, _, _, _, _, _, _, _, _, _, _, ⟨k - 1, p2, n1, c1, m1, d1, C1, D1, xs1, zs1, by go_num, hr3, hx3, q1, q2, hok1, by omega, by omega, R3, by omega, G3⟩, rfl⟩
      case measure => simp [intOf]; omega
    · obtain rfl : k = 0 := by omega
      have hwr := (Array.getElem?_eq_some_iff.1 hx).1
      go_wp2_with fail
      refine (odd_any g p' n _ R (by omega) h1 h2).mono ?_
      rintro e' w1 ⟨o, rfl, p1, q0, q1, R1, G1⟩
      have hr := (G1.block _ (Array.getElem?_eq_some_iff.1 hr).1 (fun e => by injection e with e; omega)).trans hr
      have hx := (G1.block _ (Array.getElem?_eq_some_iff.1 hx).1 (fun e => by injection e with e; omega)).trans hx
      have o1 := own_row o1 G1 (by rintro _ ⟨rfl⟩; exact hgl)
      have o2 := own_row o2 G1 (by rintro _ ⟨rfl⟩; exact hgl)
      have hz := G1.size
      have G := G.trans G1
      clear R G1
      cases o with
      | false =>
        have z0 := cell_of_row _ (w.heap.size + 1) 0 _ _ _ hx
        have z1 := cell_of_row _ (w.heap.size + 1) 1 _ _ _ hx
        have y0 := cell_of_row _ w.heap.size 0 _ _ _ hr
        have y1 := cell_of_row _ w.heap.size 1 _ _ _ hr
        have f0 := frozen_of_row _ w.heap.size 0 _ _ hr
        have f1 := frozen_of_row _ w.heap.size 1 _ _ hr
        have q1 := own_setIb (i := 1) (u := .slice D m' d') (own_setIb (i := 0) (u := .slice C n' c') o1 hr (by decide)) (set_ib0 hr) (by decide)
        have q2 := own_setIb (i := 1) (u := .slice D m' d') (own_setIb (i := 0) (u := .slice C n' c') o2 hr (by decide)) (set_ib0 hr) (by decide)
        have hr3 := set_ib1 (v := .slice D m' d') (set_ib0 (v := .slice C n' c') hr)
        have R3 := R1.grown (StIb.grown (g := w.heap.size) (v0 := .slice C n' c') (v1 := .slice D m' d')) (by rintro _ ⟨rfl⟩; exact hgl)
        have G3 := grown_late G (StIb.grown (g := w.heap.size) (v0 := .slice C n' c') (v1 := .slice D m' d')) (Nat.le_refl _)
        have u0 := cell_of_row _ w.heap.size 0 _ _ _ hr3
        have u1 := cell_of_row _ w.heap.size 1 _ _ _ hr3
        clear hr hr3 o1 o2 R1 G 
        go_wp2_with fail
        exact bodyPost_ret (v := ibA C n' c' D m' d') (by simp [results, Tryd.results28, go_sem, u0, u1]) rfl ⟨_, rfl, ⟨_, _, _, _, _, _, xs, zs, rfl, q1, q2, hok, by omega, by omega⟩, p1, Nat.zero_le _, by omega, R3, G3⟩
      | true =>
        go_wp2_with fail
        refine (pick_any g p1 3 _ R1 (by omega) (by omega) (by omega)).mono ?_
        rintro e' w2 ⟨q, rfl, t0, t1, R2, G2⟩
        have hr := (G2.block _ (Array.getElem?_eq_some_iff.1 hr).1 (fun e => by injection e with e; omega)).trans hr
        have hx := (G2.block _ (Array.getElem?_eq_some_iff.1 hx).1 (fun e => by injection e with e; omega)).trans hx
        have o1 := own_row o1 G2 (by rintro _ ⟨rfl⟩; exact hgl)
        have o2 := own_row o2 G2 (by rintro _ ⟨rfl⟩; exact hgl)
        have hz2 := G2.size
        have G := G.trans G2
        clear R1 G2
        obtain rfl | rfl | rfl : q = 0 ∨ q = 1 ∨ q = 2 := by omega
        · have y1 := cell_of_row _ (w.heap.size + 1) 1 _ _ _ hx
          have hrow : ∀ k, (Value.slice D m' d').ownBlock = some k → w.heap.size ≤ k ∧ k < w2.heap.size := fun k e => o2.lt k e
          have hwx := (Array.getElem?_eq_some_iff.1 hx).1
          go_wp2_with fail
          have next : ∀ k u, (∃ p'' c9, p'' ≤ p1 + 1 + k ∧ Rd u g p'' ∧ u.heap[w.heap.size + 1]? = some (.cells #[.slice C n' c', c9] 26 (0, 0)) ∧ u.heap[w.heap.size]? = some (.cells #[.slice none 0 0, .slice none 0 0] 26 (0, 0)) ∧ u.ownsRow w.heap.size 28 2 (.slice C n' c') n' (hds xs) ∧ w.grownBy u (some g) ∧ w2.heap.size ≤ u.heap.size) → (∃ p'' c9, p'' ≤ p1 + 1 + (k + 1) ∧ Rd u g p'' ∧ u.heap[w.heap.size + 1]? = some (.cells #[.slice C n' c', c9] 26 (0, 0)) ∧ u.heap[w.heap.size]? = some (.cells #[.slice none 0 0, .slice none 0 0] 26 (0, 0)) ∧ u.ownsRow w.heap.size 28 2 (.slice C n' c') n' (hds xs) ∧ w.grownBy u (some g) ∧ w2.heap.size ≤ u.heap.size) := fun k u ⟨p'', c9, hp, r⟩ => ⟨p'', c9, by omega, r⟩
          have more : ∀ k u o, (∃ p'' c9, p'' ≤ p1 + 1 + k ∧ Rd u g p'' ∧ u.heap[w.heap.size + 1]? = some (.cells #[.slice C n' c', c9] 26 (0, 0)) ∧ u.heap[w.heap.size]? = some (.cells #[.slice none 0 0, .slice none 0 0] 26 (0, 0)) ∧ u.ownsRow w.heap.size 28 2 (.slice C n' c') n' (hds xs) ∧ w.grownBy u (some g) ∧ w2.heap.size ≤ u.heap.size) → (∃ p'' c9, p'' ≤ p1 + 1 + (k + 1) ∧ Rd (u.alloc o) g p'' ∧ (u.alloc o).heap[w.heap.size + 1]? = some (.cells #[.slice C n' c', c9] 26 (0, 0)) ∧ (u.alloc o).heap[w.heap.size]? = some (.cells #[.slice none 0 0, .slice none 0 0] 26 (0, 0)) ∧ (u.alloc o).ownsRow w.heap.size 28 2 (.slice C n' c') n' (hds xs) ∧ w.grownBy (u.alloc o) (some g) ∧ w2.heap.size ≤ (u.alloc o).heap.size) := fun k u o ⟨p'', c9, hp, hR, hb, hr, ho, hG, hz⟩ => ⟨p'', c9, by omega, hR.alloc o, alloc_old hb, alloc_old hr, ho.alloc o, hG.trans (World.grownBy_alloc _ _ _), by rw [World.size_alloc]; omega⟩
          refine wp_region_envg (d := 8) (G := fun u => u.ownsRow w.heap.size 3 1 (.slice D m' d') m' (ints zs) ∧ u.heap[w.heap.size + 1]? = some (.cells #[.slice C n' c', .slice D m' d'] 26 (0, 0))) (W := fun kk w' => ∃ p'' c9, p'' ≤ p1 + 1 + kk ∧ Rd w' g p'' ∧ w'.heap[w.heap.size + 1]? = some (.cells #[.slice C n' c', c9] 26 (0, 0)) ∧ w'.heap[w.heap.size]? = some (.cells #[.slice none 0 0, .slice none 0 0] 26 (0, 0)) ∧ w'.ownsRow w.heap.size 28 2 (.slice C n' c') n' (hds xs) ∧ w.grownBy w' (some g) ∧ w2.heap.size ≤ w'.heap.size) (dead := fun i j => i == 10 && (j == 0 || j == 1 || j == 2 || j == 3 || j == 4 || j == 5 || j == 6 || j == 7 || j == 8 || j == 9)) (Tr := TrX g (w.heap.size + 1) (Value.slice D m' d').ownBlock) (F := fun i env w' => match i with
              | 0 => env 0 = .pointer (some ⟨w.heap.size + 1, 1, none⟩)
              | 1 => env 1 = .slice D m' d'
              | 2 => ∃ B, env 2 = .slice (some ⟨B, 0, none⟩) 2 2 ∧ (w2.heap.size ≤ B ∧ w'.heap[B]? = some (.cells #[.int .i64 (-1), .int .i64 999983] 3 (0, 0)))
              | 3 => env 3 = .pointer (some ⟨g, 0, none⟩)
              | 4 => ∃ q, env 4 = .int .i64 q ∧ (0 ≤ q ∧ q < 2)
              | 5 => ∃ B i v, env 5 = .pointer (some ⟨B, i, none⟩) ∧ (w2.heap.size ≤ B ∧ ∃ cs T, w'.heap[B]? = some (.cells cs T (0, 0)) ∧ cs[i]? = some (.int .i64 v))
              | 6 => ∃ v, env 6 = .int .i64 v ∧ True
              | 7 => ∃ B v, env 7 = .slice (some ⟨B, 0, none⟩) 1 1 ∧ (w2.heap.size ≤ B ∧ w'.heap[B]? = some (.cells #[.int .i64 v] 3 (0, 0)))
              | 8 => ∃ x D2 d2, env 8 = .slice D2 (m' + 1) d2 ∧ w'.ownsRow w.heap.size 3 1 (.slice D2 (m' + 1) d2) (m' + 1) (ints (zs ++ [x]))
              | 9 => env 9 = .pointer (some ⟨w.heap.size + 1, 1, none⟩)
              | 10 => ∃ x D2 d2, env 8 = .slice D2 (m' + 1) d2 ∧ (w'.heap[w.heap.size + 1]? = some (.cells #[.slice C n' c', .slice D2 (m' + 1) d2] 26 (0, 0)) ∧ w'.ownsRow w.heap.size 3 1 (.slice D2 (m' + 1) d2) (m' + 1) (ints (zs ++ [x])))
              | _ => True) (by kernel_rfl) (by kernel_rfl) (by kernel_rfl) ?_ ⟨o2, hx⟩ ?_ ?_ ?_ ?_ ?_
          · exact ⟨p1 + 1, _, by omega, R2.drewN 1, hx, hr, o1, ⟨G.os, G.tape, G.output, G.size, G.block⟩, Nat.le_refl _⟩
          · intro i kk a b hi hne hna hW hT hG
            by_cases e10 : i = 10
            · subst e10; exact absurd (hna.symm.trans (show ancB _ _ _ _ = true by kernel_rfl)) (by decide)
            · have t := hT.turn e10 hne; exact ⟨own_row hG.1 t (by rintro _ ⟨rfl⟩; exact hgl), (t.block _ (Array.getElem?_eq_some_iff.1 hG.2).1 (fun e => by injection e with e; omega)).trans hG.2⟩
          · intro j env env' w hj he hF
            match j with
            | 0 => exact (he 0 (.inl rfl)).symm.trans hF
            | 1 => exact (he 1 (.inl rfl)).symm.trans hF
            | 2 => obtain ⟨B, e, r⟩ := hF; exact ⟨B, (he 2 (.inl rfl)).symm.trans e, r⟩
            | 3 => exact (he 3 (.inl rfl)).symm.trans hF
            | 4 => obtain ⟨q, e, r⟩ := hF; exact ⟨q, (he 4 (.inl rfl)).symm.trans e, r⟩
            | 5 => obtain ⟨B, i, v, e, r⟩ := hF; exact ⟨B, i, v, (he 5 (.inl rfl)).symm.trans e, r⟩
            | 6 => obtain ⟨v, e, r⟩ := hF; exact ⟨v, (he 6 (.inl rfl)).symm.trans e, r⟩
            | 7 => obtain ⟨B, v, e, r⟩ := hF; exact ⟨B, v, (he 7 (.inl rfl)).symm.trans e, r⟩
            | 8 => obtain ⟨x, D2, d2, e, r⟩ := hF; exact ⟨x, D2, d2, (he 8 (.inl rfl)).symm.trans e, r⟩
            | 9 => exact (he 9 (.inl rfl)).symm.trans hF
            | 10 => obtain ⟨x, D2, d2, e, r⟩ := hF; exact ⟨x, D2, d2, (he 8 (.inr (by kernel_rfl))).symm.trans e, r⟩
            | _ + 11 => exact hF
          · intro i j kk env a b hi hj hne hdd haa hW hT hF
            by_cases es : i = 10
            · subst es
              skip
              match j with
              | 0 => exact absurd hdd (by decide)
              | 1 => exact absurd hdd (by decide)
              | 2 => exact absurd hdd (by decide)
              | 3 => exact absurd hdd (by decide)
              | 4 => exact absurd hdd (by decide)
              | 5 => exact absurd hdd (by decide)
              | 6 => exact absurd hdd (by decide)
              | 7 => exact absurd hdd (by decide)
              | 8 => exact absurd hdd (by decide)
              | 9 => exact absurd hdd (by decide)
              | 10 => exact absurd rfl hne
              | _ + 11 => exact hF
            · skip
              match j with
              | 0 => exact hF
              | 1 => exact hF
              | 2 => obtain ⟨B, e, h1, h2⟩ := hF; exact ⟨B, e, h1, hT.blk h1 (by omega) (by omega) (fun k e => (hrow k e).2) h2⟩
              | 3 => exact hF
              | 4 => exact hF
              | 5 => obtain ⟨B, i2, v, e, h1, cs, T, h2, h3⟩ := hF; exact ⟨B, i2, v, e, h1, cs, T, hT.blk h1 (by omega) (by omega) (fun k e => (hrow k e).2) h2, h3⟩
              | 6 => exact hF
              | 7 => obtain ⟨B, v, e, h1, h2⟩ := hF; exact ⟨B, v, e, h1, hT.blk h1 (by omega) (by omega) (fun k e => (hrow k e).2) h2⟩
              | 8 => obtain ⟨x, D2, d2, e, h⟩ := hF; exact ⟨x, D2, d2, e, own_row h (hT.turn es hne) (by rintro _ ⟨rfl⟩; exact hgl)⟩
              | 9 => exact hF
              | 10 =>
                match i with
                | 0 => exact absurd (haa.symm.trans (show ancB _ _ _ _ = true by kernel_rfl)) (by decide)
                | 1 => exact absurd (haa.symm.trans (show ancB _ _ _ _ = true by kernel_rfl)) (by decide)
                | 2 => exact absurd (haa.symm.trans (show ancB _ _ _ _ = true by kernel_rfl)) (by decide)
                | 3 => exact absurd (haa.symm.trans (show ancB _ _ _ _ = true by kernel_rfl)) (by decide)
                | 4 => exact absurd (haa.symm.trans (show ancB _ _ _ _ = true by kernel_rfl)) (by decide)
                | 5 => exact absurd (haa.symm.trans (show ancB _ _ _ _ = true by kernel_rfl)) (by decide)
                | 6 => exact absurd (haa.symm.trans (show ancB _ _ _ _ = true by kernel_rfl)) (by decide)
                | 7 => exact absurd (haa.symm.trans (show ancB _ _ _ _ = true by kernel_rfl)) (by decide)
                | 8 => exact absurd (haa.symm.trans (show ancB _ _ _ _ = true by kernel_rfl)) (by decide)
                | 9 => exact absurd (haa.symm.trans (show ancB _ _ _ _ = true by kernel_rfl)) (by decide)
                | 10 => exact absurd rfl es
                | _ + 11 => simp at hi; omega
              | _ + 11 => exact hF
          · refine ⟨fun kk ρ env u hk hc hf hg ht hW hd hG => ?_, ?_⟩
            · have p0 : ρ (.tmp 5) = .pointer (some ⟨w.heap.size + 1, 0, none⟩) := (ht 5).trans (by kernel_rfl)
              exact yield_value (w' := u) (.pointer (some ⟨w.heap.size + 1, 1, none⟩)) (by simp [go_sem, hc, hf, p0]) ⟨upd_same _ _ _, next _ _ hW, TrX.mk (World.grownBy.refl _ _) (by decide) (by decide)⟩
            refine ⟨fun kk ρ env u hk hc hf hg ht hW hd hG => ?_, ?_⟩
            · have e0 : ρ (.tmp 37) = env 0 := (ht 37).trans (by kernel_rfl)
              have q0 : env 0 = .pointer (some ⟨w.heap.size + 1, 1, none⟩) := hd.1 rfl
              rw [q0] at e0
              have hGG := hG (by kernel_rfl)
              have y1 := cell_of_row u (w.heap.size + 1) 1 _ _ _ hGG.2
              exact yield_value (w' := u) (.slice D m' d') (by simp [go_sem, hc, hf, e0, y1]) ⟨upd_same _ _ _, next _ _ hW, TrX.mk (World.grownBy.refl _ _) (by decide) (by decide)⟩
            refine ⟨fun kk ρ env u hk hc hf hg ht hW hd hG => ?_, ?_⟩
            · have hz := hW.choose_spec.choose_spec.2.2.2.2.2.2
              exact yield_value (w' := u.alloc (.cells #[.int .i64 (-1), .int .i64 999983] 3)) (.slice (some ⟨u.heap.size, 0, none⟩) 2 2) (by simp [go_sem, hc]) ⟨⟨_, upd_same _ _ _, hz, alloc_new' rfl⟩, more _ _ _ hW, TrX.mk (World.grownBy_alloc _ _ _) (by decide) (by decide)⟩
            refine ⟨fun kk ρ env u hk hc hf hg ht hW hd hG => ?_, ?_⟩
            · have p0 : ρ (.tmp 0) = .pointer (some ⟨g, 0, none⟩) := (ht 0).trans (by kernel_rfl)
              exact yield_move _ rfl ⟨(upd_same _ _ _).trans p0, next _ _ hW, TrX.mk (World.grownBy.refl _ _) (by decide) (by decide)⟩
            refine ⟨fun kk ρ env u hk hc hf hg ht hW hd hG => ?_, ?_⟩
            · have e3 : ρ (.tmp 40) = env 3 := (ht 40).trans (by kernel_rfl)
              have q1 : env 3 = .pointer (some ⟨g, 0, none⟩) := hd.1 rfl
              rw [q1] at e3
              obtain ⟨p'', c9, hp2, hR, hb, hr, ho, hG2, hz⟩ := hW
              have hk11 : kk < 11 := hk
              refine yield_call 62 #[.pointer (some ⟨g, 0, none⟩), .int .i64 2] (by simp [go_sem, hc, hf, e3]) ?_
              refine (pick_any g p'' 2 _ hR (by omega) (by omega) (by omega)).mono ?_
              rintro e' w' ⟨q, rfl, a0, a1, R3, G3⟩
              exact ⟨_, rfl, ⟨q, upd_same _ _ _, a0, a1⟩, ⟨p'' + 1, c9, by omega, R3, (G3.block _ (Array.getElem?_eq_some_iff.1 hb).1 (fun e => by injection e with e; omega)).trans hb, (G3.block _ (Array.getElem?_eq_some_iff.1 hr).1 (fun e => by injection e with e; omega)).trans hr, own_row ho G3 (by rintro _ ⟨rfl⟩; exact hgl), hG2.trans G3, Nat.le_trans hz G3.size⟩, TrX.mk G3 (by decide) (by decide)⟩
            refine ⟨fun kk ρ env u hk hc hf hg ht hW hd hG => ?_, ?_⟩
            · have e2 : ρ (.tmp 39) = env 2 := (ht 39).trans (by kernel_rfl)
              have e4 : ρ (.tmp 41) = env 4 := (ht 41).trans (by kernel_rfl)
              obtain ⟨B, q2, h1, h2⟩ : ∃ B, env 2 = .slice (some ⟨B, 0, none⟩) 2 2 ∧ (w2.heap.size ≤ B ∧ u.heap[B]? = some (.cells #[.int .i64 (-1), .int .i64 999983] 3 (0, 0))) := hd.1 rfl
              obtain ⟨q, q4, a0, a1⟩ : ∃ q, env 4 = .int .i64 q ∧ (0 ≤ q ∧ q < 2) := hd.2.1 rfl
              rw [q2] at e2
              rw [q4] at e4
              obtain rfl | rfl : q = 0 ∨ q = 1 := by omega
              · exact yield_value (w' := u) (.pointer (some ⟨B, 0, none⟩)) (by simp [go_sem, hc, hf, e2, e4, IntWalk.i64_in]) ⟨⟨B, 0, -1, upd_same _ _ _, h1, _, _, h2, rfl⟩, next _ _ hW, TrX.mk (World.grownBy.refl _ _) (by decide) (by decide)⟩
              · exact yield_value (w' := u) (.pointer (some ⟨B, 1, none⟩)) (by simp [go_sem, hc, hf, e2, e4, IntWalk.i64_in]) ⟨⟨B, 1, 999983, upd_same _ _ _, h1, _, _, h2, rfl⟩, next _ _ hW, TrX.mk (World.grownBy.refl _ _) (by decide) (by decide)⟩
            refine ⟨fun kk ρ env u hk hc hf hg ht hW hd hG => ?_, ?_⟩
            · have e5 : ρ (.tmp 42) = env 5 := (ht 42).trans (by kernel_rfl)
              obtain ⟨B, i, v, q5, h1, cs, T, h2, h3⟩ : ∃ B i v, env 5 = .pointer (some ⟨B, i, none⟩) ∧ (w2.heap.size ≤ B ∧ ∃ cs T, u.heap[B]? = some (.cells cs T (0, 0)) ∧ cs[i]? = some (.int .i64 v)) := hd.1 rfl
              rw [q5] at e5
              have c0 := (cell_of_row u B i _ _ _ h2).trans h3
              exact yield_value (w' := u) (.int .i64 v) (by simp [go_sem, hc, hf, e5, c0]) ⟨⟨v, upd_same _ _ _, trivial⟩, next _ _ hW, TrX.mk (World.grownBy.refl _ _) (by decide) (by decide)⟩
            refine ⟨fun kk ρ env u hk hc hf hg ht hW hd hG => ?_, ?_⟩
            · have e6 : ρ (.tmp 43) = env 6 := (ht 43).trans (by kernel_rfl)
              obtain ⟨v, q6, _⟩ : ∃ v, env 6 = .int .i64 v ∧ True := hd.1 rfl
              rw [q6] at e6
              have hz := hW.choose_spec.choose_spec.2.2.2.2.2.2
              exact yield_value (w' := u.alloc (.cells #[.int .i64 v] 3)) (.slice (some ⟨u.heap.size, 0, none⟩) 1 1) (by simp [go_sem, hc, hf, e6]) ⟨⟨_, v, upd_same _ _ _, hz, alloc_new' rfl⟩, more _ _ _ hW, TrX.mk (World.grownBy_alloc _ _ _) (by decide) (by decide)⟩
            refine ⟨fun kk ρ env u hk hc hf hg ht hW hd hG => ?_, ?_⟩
            · have e1 : ρ (.tmp 38) = env 1 := (ht 38).trans (by kernel_rfl)
              have e7 : ρ (.tmp 44) = env 7 := (ht 44).trans (by kernel_rfl)
              have q1 : env 1 = .slice D m' d' := hd.1 rfl
              obtain ⟨B, v, q7, h1, h2⟩ : ∃ B v, env 7 = .slice (some ⟨B, 0, none⟩) 1 1 ∧ (w2.heap.size ≤ B ∧ u.heap[B]? = some (.cells #[.int .i64 v] 3 (0, 0))) := hd.2.1 rfl
              rw [q1] at e1
              rw [q7] at e7
              obtain ⟨p'', c9, hp2, hR, hb, hr, ho, hG2, hz⟩ := hW
              obtain ⟨hod, hbb⟩ := hG rfl
              have hz0 := hG2.size
              refine yield_append (.tmp 38) (.tmp 44) eltInt rfl w.heap.size _ m' (ints zs) e1 hod (some ⟨B, 0, none⟩) 1 1 [.int .i64 v] e7 (see_lit h2) (by simp) rfl (ints_oneCell _ [v]) (by unfold maxLen; omega) (by omega) hz0 ?_
              intro v' w' O G3 _
              obtain ⟨D2, d2, rfl, _⟩ := own_form O
              rw [show ints zs ++ [Value.int .i64 v] = ints (zs ++ [v]) by simp [ints]] at O
              have hbx' := (G3.block _ (Array.getElem?_eq_some_iff.1 hb).1 (fun e => own_ne hod hb (by decide) e.symm)).trans hb
              have hr' := (G3.block _ (Array.getElem?_eq_some_iff.1 hr).1 (fun e => own_ne hod hr (by decide) e.symm)).trans hr
              have ho' := ho.kept G3 (own_own_ne ho hod (by decide))
              have hR' := hR.grown G3 (fun k e => by have := (hrow k e).1; omega)
              have hG' : w.grownBy w' (some g) := ⟨G3.os.trans hG2.os, G3.tape.trans hG2.tape, G3.output.trans hG2.output, Nat.le_trans hG2.size G3.size, fun j hj hne => (G3.block j (Nat.lt_of_lt_of_le hj hG2.size) (fun e => by have := (hrow j e.symm).1; omega)).trans (hG2.block j hj hne)⟩
              exact ⟨⟨v, D2, d2, upd_same _ _ _, O⟩, ⟨p'', c9, by omega, hR', hbx', hr', ho', hG', Nat.le_trans hz G3.size⟩, by unfold TrX; rw [if_neg (by decide), if_pos rfl]; exact G3⟩
            refine ⟨fun kk ρ env u hk hc hf hg ht hW hd hG => ?_, ?_⟩
            · have p0 : ρ (.tmp 5) = .pointer (some ⟨w.heap.size + 1, 0, none⟩) := (ht 5).trans (by kernel_rfl)
              exact yield_value (w' := u) (.pointer (some ⟨w.heap.size + 1, 1, none⟩)) (by simp [go_sem, hc, hf, p0]) ⟨upd_same _ _ _, next _ _ hW, TrX.mk (World.grownBy.refl _ _) (by decide) (by decide)⟩
            refine ⟨fun kk ρ env u hk hc hf hg ht hW hd hG => ?_, ?_⟩
            · have e9 : ρ (.tmp 46) = env 9 := (ht 46).trans (by kernel_rfl)
              have e8 : ρ (.tmp 45) = env 8 := (ht 45).trans (by kernel_rfl)
              have q9 : env 9 = .pointer (some ⟨w.heap.size + 1, 1, none⟩) := hd.1 rfl
              obtain ⟨x, D2, d2, q8, O⟩ : ∃ x D2 d2, env 8 = .slice D2 (m' + 1) d2 ∧ u.ownsRow w.heap.size 3 1 (.slice D2 (m' + 1) d2) (m' + 1) (ints (zs ++ [x])) := hd.2.1 rfl
              rw [q9] at e9
              rw [q8] at e8
              obtain ⟨p'', c9, hp2, hR, hb, hr, ho, hG2, hz⟩ := hW
              have f1 := frozen_of_row u (w.heap.size + 1) 1 _ _ hb
              have y1 := cell_of_row u (w.heap.size + 1) 1 _ _ _ hb
              have hO := own_setIb (i := 1) (u := .slice D2 (m' + 1) d2) O hb (by decide)
              have ho2 := own_setIb (i := 1) (u := .slice D2 (m' + 1) d2) ho hb (by decide)
              have hb3 := set_ib1 (v := .slice D2 (m' + 1) d2) hb
              have hr3 := set_else (g := w.heap.size + 1) (i := 1) (v := .slice D2 (m' + 1) d2) (by omega) hr
              have hgx := setCell_grown u (w.heap.size + 1) 1 (.slice D2 (m' + 1) d2)
              refine yield_skip (w' := u.setCell ⟨w.heap.size + 1, 1, none⟩ (.slice D2 (m' + 1) d2)) (by simp [go_sem, hc, hf, e9, e8, f1, y1]) ?_
              exact ⟨⟨x, D2, d2, (upd_other env _ (by decide)).trans q8, hb3, hO⟩, ⟨p'', _, by omega, hR.grown hgx (by rintro _ ⟨rfl⟩; omega), hb3, hr3, ho2, grown_late hG2 hgx (by omega), by simpa using hz⟩, by unfold TrX; rw [if_pos rfl]; exact ⟨_, rfl⟩⟩
            trivial
          intro env w5 hW hF
          obtain ⟨x, D2, d2, _, hx, o2⟩ : ∃ x D2 d2, env 8 = .slice D2 (m' + 1) d2 ∧ (w5.heap[w.heap.size + 1]? = some (.cells #[.slice C n' c', .slice D2 (m' + 1) d2] 26 (0, 0)) ∧ w5.ownsRow w.heap.size 3 1 (.slice D2 (m' + 1) d2) (m' + 1) (ints (zs ++ [x]))) := hF 10 (of_decide_eq_true (by kernel_rfl)) (fun i hi => by match i with | 0 | 1 | 2 | 3 | 4 | 5 | 6 | 7 | 8 | 9 | 10 => rfl | _ + 11 => simp at hi; omega)
          obtain ⟨p4, c9, hp4, R2, _, hr, o1, G, hz5⟩ := hW
          have hp4 : p4 ≤ p1 + 1 + 11 := hp4
          have hrng : List.range 52 = [0, 1, 2, 3, 4, 5, 6, 7, 8, 9, 10, 11, 12, 13, 14, 15, 16, 17, 18, 19, 20, 21, 22, 23, 24, 25, 26, 27, 28, 29, 30, 31, 32, 33, 34, 35, 36, 37, 38, 39, 40, 41, 42, 43, 44, 45, 46, 47, 48, 49, 50, 51] := by kernel_rfl
          unfold after
          simp only [List.size_toArray, List.length_cons, List.length_nil, Nat.reduceAdd, hrng, List.map_cons, List.map_nil]
          simp [idxOf, List.findIdx?, List.findIdx?.go]
          have z0 := cell_of_row _ (w.heap.size + 1) 0 _ _ _ hx
          have z1 := cell_of_row _ (w.heap.size + 1) 1 _ _ _ hx
          have y0 := cell_of_row _ w.heap.size 0 _ _ _ hr
          have y1 := cell_of_row _ w.heap.size 1 _ _ _ hr
          have f0 := frozen_of_row _ w.heap.size 0 _ _ hr
          have f1 := frozen_of_row _ w.heap.size 1 _ _ hr
          have q1 := own_setIb (i := 1) (u := .slice D2 (m' + 1) d2) (own_setIb (i := 0) (u := .slice C n' c') o1 hr (by decide)) (set_ib0 hr) (by decide)
          have q2 := own_setIb (i := 1) (u := .slice D2 (m' + 1) d2) (own_setIb (i := 0) (u := .slice C n' c') o2 hr (by decide)) (set_ib0 hr) (by decide)
          have hr3 := set_ib1 (v := .slice D2 (m' + 1) d2) (set_ib0 (v := .slice C n' c') hr)
          have R3 := R2.grown (StIb.grown (g := w.heap.size) (v0 := .slice C n' c') (v1 := .slice D2 (m' + 1) d2)) (by rintro _ ⟨rfl⟩; exact hgl)
          have G3 := grown_late G (StIb.grown (g := w.heap.size) (v0 := .slice C n' c') (v1 := .slice D2 (m' + 1) d2)) (Nat.le_refl _)
          have u0 := cell_of_row _ w.heap.size 0 _ _ _ hr3
          have u1 := cell_of_row _ w.heap.size 1 _ _ _ hr3
          clear hr hr3 o1 o2 R2 G hx
          go_wp2_with fail
          exact bodyPost_ret (v := ibA C n' c' D2 (m' + 1) d2) (by simp [results, Tryd.results28, go_sem, u0, u1]) rfl ⟨_, rfl, ⟨_, _, _, _, _, _, xs, (zs ++ [x]), rfl, q1, q2, hok, by omega, by omega⟩, p4, Nat.zero_le _, by omega, R3, G3⟩
        · have t2 := own_lower (own_lit w2 [.int .i64 5, .int .i64 5] 3 1 2 w2.heap.size rfl rfl (by unfold maxLen; omega)) (show w.heap.size ≤ w2.heap.size by omega)
          have hx := alloc_old (o := (.cells #[.int .i64 5, .int .i64 5] 3)) hx
          have hr := alloc_old (o := (.cells #[.int .i64 5, .int .i64 5] 3)) hr
          have o1 := o1.alloc (.cells #[.int .i64 5, .int .i64 5] 3)
          have R2 := R2.alloc (.cells #[.int .i64 5, .int .i64 5] 3)
          have G := G.trans (World.grownBy_alloc _ (.cells #[.int .i64 5, .int .i64 5] 3) _)
          have R2 := R2.grown (setCell_grown _ (w.heap.size + 1) 1 (.slice (some ⟨w2.heap.size, 0, none⟩) 2 2)) (by rintro _ ⟨rfl⟩; omega)
          have G := grown_late G (setCell_grown _ (w.heap.size + 1) 1 (.slice (some ⟨w2.heap.size, 0, none⟩) 2 2)) (by omega)
          have o1 := own_setIb (i := 1) (u := .slice (some ⟨w2.heap.size, 0, none⟩) 2 2) o1 hx (by decide)
          have t2 := own_setIb (i := 1) (u := .slice (some ⟨w2.heap.size, 0, none⟩) 2 2) t2 hx (by decide)
          have hr := set_else (g := w.heap.size + 1) (i := 1) (v := .slice (some ⟨w2.heap.size, 0, none⟩) 2 2) (by omega) hr
          have f5 := frozen_of_row _ (w.heap.size + 1) 1 _ _ hx
          have c5 := cell_of_row _ (w.heap.size + 1) 1 _ _ _ hx
          have hx := set_ib1 (v := .slice (some ⟨w2.heap.size, 0, none⟩) 2 2) hx
          rw [show [Value.int .i64 5, Value.int .i64 5] = ints [5, 5] from rfl] at t2
          have z0 := cell_of_row _ (w.heap.size + 1) 0 _ _ _ hx
          have z1 := cell_of_row _ (w.heap.size + 1) 1 _ _ _ hx
          have y0 := cell_of_row _ w.heap.size 0 _ _ _ hr
          have y1 := cell_of_row _ w.heap.size 1 _ _ _ hr
          have f0 := frozen_of_row _ w.heap.size 0 _ _ hr
          have f1 := frozen_of_row _ w.heap.size 1 _ _ hr
          have q1 := own_setIb (i := 1) (u := .slice (some ⟨w2.heap.size, 0, none⟩) 2 2) (own_setIb (i := 0) (u := .slice C n' c') o1 hr (by decide)) (set_ib0 hr) (by decide)
          have q2 := own_setIb (i := 1) (u := .slice (some ⟨w2.heap.size, 0, none⟩) 2 2) (own_setIb (i := 0) (u := .slice C n' c') t2 hr (by decide)) (set_ib0 hr) (by decide)
          have hr3 := set_ib1 (v := .slice (some ⟨w2.heap.size, 0, none⟩) 2 2) (set_ib0 (v := .slice C n' c') hr)
          have R3 := R2.grown (StIb.grown (g := w.heap.size) (v0 := .slice C n' c') (v1 := .slice (some ⟨w2.heap.size, 0, none⟩) 2 2)) (by rintro _ ⟨rfl⟩; exact hgl)
          have G3 := grown_late G (StIb.grown (g := w.heap.size) (v0 := .slice C n' c') (v1 := .slice (some ⟨w2.heap.size, 0, none⟩) 2 2)) (Nat.le_refl _)
          have u0 := cell_of_row _ w.heap.size 0 _ _ _ hr3
          have u1 := cell_of_row _ w.heap.size 1 _ _ _ hr3
          clear hr hr3 o1 t2 R2 G o2 hx
          go_wp2_with fail
          exact bodyPost_ret (v := ibA C n' c' (some ⟨w2.heap.size, 0, none⟩) 2 2) (by simp [results, Tryd.results28, go_sem, u0, u1]) rfl ⟨_, rfl, ⟨_, _, _, _, _, _, xs, [5, 5], rfl, q1, q2, hok, by omega, by omega⟩, p1 + 1, Nat.zero_le _, by omega, R3, G3⟩
        · have o1a := o1.alloc (.cells #[.string ⟨#[]⟩, .string ⟨#[]⟩] 28)
          have HX := hid (And.intro (alloc_old (o := (.cells #[.string ⟨#[]⟩, .string ⟨#[]⟩] 28)) hx) (And.intro (alloc_old (o := (.cells #[.string ⟨#[]⟩, .string ⟨#[]⟩] 28)) hr) (And.intro (o2.alloc (.cells #[.string ⟨#[]⟩, .string ⟨#[]⟩] 28)) (And.intro (R2.alloc (.cells #[.string ⟨#[]⟩, .string ⟨#[]⟩] 28)) (G.trans (World.grownBy_alloc _ (.cells #[.string ⟨#[]⟩, .string ⟨#[]⟩] 28) _))))))
          have HB := hid (show w.heap.size ≤ (w2.alloc (.cells #[.string ⟨#[]⟩, .string ⟨#[]⟩] 28)).heap.size from by rw [World.size_alloc]; omega)
          have x0 := cell_of_row _ (w.heap.size + 1) 0 _ _ _ hx
          clear hx hr o2 R2 G
          go_wp2_with (at_builtin; refine wpList_append_see _ rfl _ _ eltHandle rfl w.heap.size _ n' (hds xs) rfl o1a _ 1 1 [.string ⟨#[]⟩, .string ⟨#[]⟩] rfl (see_new _ [.string ⟨#[]⟩, .string ⟨#[]⟩] _ _ rfl) (fun e => by cases e) rfl (by intro u hu; simp at hu; rcases hu with rfl | rfl <;> rfl) (by unfold maxLen; omega) (by omega) HB.out ?_
                       intro v5 w5 o5 g5 _
                       obtain ⟨hx, hr, o2, R2, G⟩ := HX.out
                       have hx := (g5.block _ (Array.getElem?_eq_some_iff.1 hx).1 (fun e => own_ne o1a hx (by decide) e.symm)).trans hx
                       have hr := (g5.block _ (Array.getElem?_eq_some_iff.1 hr).1 (fun e => own_ne o1a hr (by decide) e.symm)).trans hr
                       have o2 := o2.kept g5 (own_own_ne o2 o1a (by decide))
                       have R2 := R2.grown g5 (fun k e => by have := (o1a.lt k e).1; omega)
                       have G : w.grownBy w5 (some g) := ⟨g5.os.trans G.os, g5.tape.trans G.tape, g5.output.trans G.output, Nat.le_trans G.size g5.size, fun j hj hne => (g5.block j (Nat.lt_of_lt_of_le hj G.size) (fun e => by have := (o1a.lt j e.symm).1; omega)).trans (G.block j hj hne)⟩
                       rw [show hds xs ++ [Value.string ⟨#[]⟩, Value.string ⟨#[]⟩] = hds (xs ++ [((⟨#[]⟩ : ByteArray), (⟨#[]⟩ : ByteArray))]) by simp [flat]] at o5
                       obtain ⟨C5, c5, rfl, _⟩ := own_form o5
                       have o1 := o5
                       clear o1a HX HB x0 g5 o5
                       have hwx := (Array.getElem?_eq_some_iff.1 hx).1
                       have R2 := R2.grown (setCell_grown _ (w.heap.size + 1) 0 (.slice C5 (n' + 1) c5)) (by rintro _ ⟨rfl⟩; omega)
                       have G := grown_late G (setCell_grown _ (w.heap.size + 1) 0 (.slice C5 (n' + 1) c5)) (by omega)
                       have o1 := own_setIb (i := 0) (u := .slice C5 (n' + 1) c5) o1 hx (by decide)
                       have o2 := own_setIb (i := 0) (u := .slice C5 (n' + 1) c5) o2 hx (by decide)
                       have hr := set_else (g := w.heap.size + 1) (i := 0) (v := .slice C5 (n' + 1) c5) (by omega) hr
                       have f5 := frozen_of_row _ (w.heap.size + 1) 0 _ _ hx
                       have x5 := cell_of_row _ (w.heap.size + 1) 0 _ _ _ hx
                       have hx := set_ib0 (v := .slice C5 (n' + 1) c5) hx
                       have z0 := cell_of_row _ (w.heap.size + 1) 0 _ _ _ hx
                       have z1 := cell_of_row _ (w.heap.size + 1) 1 _ _ _ hx
                       have y0 := cell_of_row _ w.heap.size 0 _ _ _ hr
                       have y1 := cell_of_row _ w.heap.size 1 _ _ _ hr
                       have f0 := frozen_of_row _ w.heap.size 0 _ _ hr
                       have f1 := frozen_of_row _ w.heap.size 1 _ _ hr
                       have q1 := own_setIb (i := 1) (u := .slice D m' d') (own_setIb (i := 0) (u := .slice C5 (n' + 1) c5) o1 hr (by decide)) (set_ib0 hr) (by decide)
                       have q2 := own_setIb (i := 1) (u := .slice D m' d') (own_setIb (i := 0) (u := .slice C5 (n' + 1) c5) o2 hr (by decide)) (set_ib0 hr) (by decide)
                       have hr3 := set_ib1 (v := .slice D m' d') (set_ib0 (v := .slice C5 (n' + 1) c5) hr)
                       have R3 := R2.grown (StIb.grown (g := w.heap.size) (v0 := .slice C5 (n' + 1) c5) (v1 := .slice D m' d')) (by rintro _ ⟨rfl⟩; exact hgl)
                       have G3 := grown_late G (StIb.grown (g := w.heap.size) (v0 := .slice C5 (n' + 1) c5) (v1 := .slice D m' d')) (Nat.le_refl _)
                       have u0 := cell_of_row _ w.heap.size 0 _ _ _ hr3
                       have u1 := cell_of_row _ w.heap.size 1 _ _ _ hr3
                       clear hr hr3 o1 o2 R2 G hx)
          exact bodyPost_ret (v := ibA C5 (n' + 1) c5 D m' d') (by simp [results, Tryd.results28, go_sem, u0, u1]) rfl ⟨_, rfl, ⟨_, _, _, _, _, _, (xs ++ [((⟨#[]⟩ : ByteArray), (⟨#[]⟩ : ByteArray))]), zs, rfl, q1, q2, hdOk_more hok, by omega, by omega⟩, p1 + 1, Nat.zero_le _, by omega, R3, G3⟩
end Go.Proofs.YtoagpfdhbcgdcaaDoor
