/- The texts Strings, StringMem, OpenT, TextV, Dig, in one. -/
import Derived.Test.YtoagpfdhbcgdcaaDoorG1
import Derived.Deep.Slices
import Derived.ChangeSame
import Derived.OpenShut
section
/- The contracts of the laws' functions over lists: String. -/
namespace Go.Proofs.YtoagpfdhbcgdcaaDoor
open Go.RowKit
set_option linter.unusedVariables false
abbrev St := ByteArray
abbrev stC (x : St) : List Value := [.string x]
theorem stC_len (x : St) : (stC x).length = 1 := rfl
abbrev sts (xs : List St) : List Value := flat stC xs
theorem Sl.st {w : World} {A : Option Addr} {n c : Nat} {xs : List St} (h : Sl w A n c 1 (sts xs)) {j : Nat} (hj : j < n) :
    ∃ ad a, A = some ad ∧ xs[j]? = some a ∧ w.cell? (ad.add j) = some (.string a) := by
  obtain ⟨ad, a, h1, h2, h3⟩ := h.elem stC_len (by omega) hj
  exact ⟨ad, a, h1, h2, by simpa using h3 0 _ rfl⟩
theorem sts_at {xs : List St} {j : Nat} {a : ByteArray} (h : xs[j]? = some a) : (sts xs)[j]? = some (.string a) := by
  simpa using flat_get stC_len h (show 0 < 1 by omega)
theorem eltString : Elt Tryd.prog 51 9 1 16 := elt_mk (z := .string ⟨#[]⟩) (by kernel_rfl) rfl Tryd.underlying51 (by decide)
theorem stQ_yes (a : ByteArray) : True := trivial
theorem bytes_ne {a b : ByteArray} (e : ¬ a = b) : (a.toList == b.toList) = false := by
  rw [beq_eq_false_iff_ne, Ne, ByteArray.toList_eq, ByteArray.toList_eq]
  exact fun h => e (ByteArray.ext (Array.toList_inj.mp h))
theorem stQ_no {a b : ByteArray} (e : ¬ a = b) : (a.toList == b.toList) = false := bytes_ne e
def stOk (xs : List ByteArray) : Prop := ∀ x ∈ xs, x.size ≤ 9223372036854775807
theorem toStringS_any (A : Option Addr) (n c : Nat) (xs : List St) (w : World) (h : Sl w A n c 1 (sts xs)) (hn : n ≤ 1048576) :
    Calls Tryd.prog 24 #[.slice A n c] w fun e w' => e = .returned (.slice (some ⟨w.heap.size, 0, none⟩) n n) ∧ w'.ownsRow w.heap.size 9 1 (.slice (some ⟨w.heap.size, 0, none⟩) n n) n (sts xs) ∧ Below w.heap.size w w' := by
  obtain ⟨i0, hi, hz0, hz1, hz2⟩ := info_parts (show (Tryd.prog.info? 9).map (fun i => (i.zero, i.size, i.bytes)) = some (some (.string ⟨#[]⟩), 1, 16) by kernel_rfl)
  have hlen : xs.length = n := h.count stC_len (by omega)
  have hflen : (sts xs).length = n := by have := h.len; rwa [Nat.mul_one] at this
  go_enter Tryd.func24, Tryd.ntmps24
  go_wp2_with (at_make; refine wpList_make_full _ rfl _ _ 51 rfl w.heap.size 9 i0 (.string ⟨#[]⟩) 1 Tryd.underlying51 hi hz0 hz1 .i64 .i64 n n n rfl rfl rfl rfl (by rw [hz2]; omega) (by unfold maxLen; omega) (Nat.le_refl _) ?_; intro w1 hown hg)
  have hb : Below w.heap.size w w1 := below_of_grown hg (Nat.le_refl _) (by simp)
  go_loopw [4] (fun i wr => ∃ (k : Nat) (vs : List Value), k ≤ n ∧ i = .int .i64 k ∧ wr.ownsRow w.heap.size 9 1 (.slice (some ⟨w.heap.size, 0, none⟩) n n) n vs ∧ vs.take (k) = (sts xs).take (k) ∧ Below w.heap.size w wr) (fun i _ => n - (intOf i).toNat)
  case atStart => exact ⟨0, _, Nat.zero_le _, rfl, hown, rfl, hb⟩
  case round =>
    obtain ⟨k, vs, hk, rfl, hown, htk, hb⟩ := hrel
    by_cases hlt : k < n
    · obtain ⟨ad, a, rfl, hab, c0⟩ := (h.below hb).st hlt
      have p0 := sts_at hab
      obtain ⟨o0, ho0, hc0⟩ := own_old (k := k) hown (show k < n * 1 by omega)
      have hf0 := hown.frozenAt (k)
      go_wp2
      have S0 := hown.stored (k) (.string a)
      have T0 := take_set_snoc (k := k) htk (by have h1 := hown.1; omega) p0
      have hb2 := hb.grown (S0.2) hb.size (by rintro _ ⟨rfl⟩; exact Nat.le_refl _)
      go_roundw
      case rel => exact ⟨k + 1, _, by omega, by go_num, S0.1, T0, hb2⟩
      case measure => simp [intOf]; omega
    · obtain rfl : k = n := by omega
      have R : vs = sts xs := by
        have h1 := hown.1
        rw [List.take_of_length_le (by omega), List.take_of_length_le (by omega)] at htk
        exact htk
      subst R
      have R := hid (And.intro hown hb)
      clear hown hb htk
      go_wp2
      go_ret
      exact ⟨rfl, R.out⟩
theorem szStringS_any (A : Option Addr) (n c : Nat) (xs : List St) (l : Int) (w : World) (h : Sl w A n c 1 (sts xs)) (h0 : 0 ≤ l) (h1 : l ≤ 1048576) (hx : stOk xs) :
    Calls Tryd.prog 23 #[.slice A n c, .int .i64 l] w fun e w' => ∃ r : Int, e = .returned (.int .i64 r) ∧ -1 ≤ r ∧ r ≤ l ∧ (0 ≤ r → (n : Int) ≤ l) ∧ Ext.of w w' := by
  have hmx := h.max
  have hcx := h.cap
  unfold maxLen at hmx
  by_cases hn : l - n < 0
  · go_enter Tryd.func23, Tryd.ntmps23
    go_wp2
    go_ret
    exact ⟨_, rfl, by omega, by omega, fun h => by omega, Ext.of.refl _⟩
  · have hn' : (n : Int) ≤ l := by omega
    go_enter Tryd.func23, Tryd.ntmps23
    go_wp2
    go_loopw [1, 5] (fun q i wr => ∃ (k : Nat) (r : Int), k ≤ n ∧ i = .int .i64 k ∧ q = .int .i64 r ∧ 0 ≤ r ∧ r ≤ l ∧ Ext.of w wr) (fun _ i _ => n - (intOf i).toNat)
    case atStart => exact ⟨0, _, Nat.zero_le _, rfl, rfl, by omega, by omega, Ext.of.refl _⟩
    case round =>
      obtain ⟨k, r, hk, rfl, rfl, r0, r1, hE⟩ := hrel
      by_cases hlt : k < n
      · obtain ⟨ad, a, rfl, hab, c0⟩ := (h.ext hE).st hlt
        have hs := hx _ (List.mem_of_getElem? hab)
        clear hab
        have HS := hid hs; clear hs
        have hsz := HS.out
        by_cases hr : r - a.size < 0
        · go_wp2
          go_ret
          exact ⟨_, rfl, by omega, by omega, fun h => by omega, hE⟩
        · go_wp2
          go_roundw
          case rel => exact ⟨k + 1, _, by omega, by go_num, rfl, by omega, by omega, hE⟩
          case measure => simp [intOf]; omega
      · obtain rfl : k = n := by omega
        go_wp2
        go_ret
        exact ⟨_, rfl, by omega, by omega, fun _ => hn', hE⟩
theorem eqStringS_any (A B : Option Addr) (n c m d : Nat) (xs ys : List St) (w : World) (hx : Sl w A n c 1 (sts xs)) (hy : Sl w B m d 1 (sts ys)) :
    Calls Tryd.prog 25 #[.slice A n c, .slice B m d] w fun e w' => e = .returned (.bool (decide (xs = ys))) ∧ Ext.of w w' := by
  have hlx : xs.length = n := hx.count stC_len (by omega)
  have hly : ys.length = m := hy.count stC_len (by omega)
  have hmx := hx.max
  have hmy := hy.max
  have hcx := hx.cap
  have hcy := hy.cap
  unfold maxLen at hmx hmy
  by_cases hnm : n = m
  · subst hnm
    go_enter Tryd.func25, Tryd.ntmps25
    go_wp2
    go_loopw [5] (fun i wr => ∃ (k : Nat) (y : Ext), k ≤ n ∧ i = .int .i64 k ∧ wr = More w y ∧ xs.take k = ys.take k) (fun i _ => n - (intOf i).toNat)
    case atStart => exact ⟨0, _, Nat.zero_le _, rfl, more_refl w, rfl⟩
    case round =>
      obtain ⟨k, y, hk, rfl, rfl, htk⟩ := hrel
      by_cases hlt : k < n
      · obtain ⟨ad, a, rfl, hab, c0⟩ := hx.st hlt
        obtain ⟨ae, a', rfl, hab', d0⟩ := hy.st hlt
        have e0 := more_cell2 c0 y
        have f0 := more_cell2 d0 y
        clear c0 d0
        by_cases he : a = a'
        · subst he
          have R := hid (take_next htk hab hab')
          have D := stQ_yes a
          clear hab hab' htk
          go_wp2
          refine wp_region_more (by kernel_rfl) (by kernel_rfl) ?_
          repeat (go_big_quiet_step (fail))
          refine wpQuiet_nil ?_
          rintro _ ⟨z, rfl⟩
          go_wp2
          go_roundw
          case rel => exact ⟨k + 1, _, by omega, by go_num, more_more _ _ _, R.out⟩
          case measure => simp [intOf]; omega
        · have hne : decide (xs = ys) = false := by
            refine decide_eq_false fun e => he ?_
            subst e
            rw [hab] at hab'
            injection hab'
          have H := hid hne
          have D := stQ_no he
          clear hab hab' htk hne he
          go_wp2
          refine wp_region_more (by kernel_rfl) (by kernel_rfl) ?_
          repeat (go_big_quiet_step (fail))
          refine wpQuiet_nil ?_
          rintro _ ⟨z, rfl⟩
          go_wp2
          go_ret
          exact ⟨ret_bool H.out.symm, _, more_more _ _ _⟩
      · obtain rfl : k = n := by omega
        have R : xs = ys := by
          rw [List.take_of_length_le (by omega), List.take_of_length_le (by omega)] at htk
          exact htk
        have H := hid (decide_eq_true R)
        clear htk R
        go_wp2
        go_ret
        exact ⟨ret_bool H.out.symm, _, rfl⟩
  · have hne : decide (xs = ys) = false := by
      refine decide_eq_false fun e => hnm ?_
      rw [← hlx, ← hly, e]
    rw [hne]
    have hb1 : ((n : Int) == (m : Int)) = false := by simpa using fun e => hnm (by exact_mod_cast e)
    go_enter Tryd.func25, Tryd.ntmps25
    go_wp2
    go_ret
    exact ⟨rfl, _, more_refl w⟩
/-- The marks from k on. -/
def stMark (k n : Nat) : List St := (List.range n).map fun j => (mtB (k + j))
theorem stMark_len (k n : Nat) : (stMark k n).length = n := by simp [stMark]
theorem stMark_at {k n j : Nat} (h : j < n) : (stMark k n)[j]? = some (mtB (k + j)) := by simp [stMark, h]
set_option maxHeartbeats 1000000 in
theorem markStringS_nat (A : Option Addr) (n c k : Nat) (vs : List Value) (base : Nat) (w : World) (h : w.ownsRow base 9 1 (.slice A n c) n vs) (hn : n ≤ 1048576) (hk : 1 ≤ k) (hk2 : k ≤ 4294967296) :
    Calls Tryd.prog 26 #[.slice A n c, .int .i64 k] w fun e w' => e = .returned (.int .i64 ((k + n : Nat) : Int)) ∧ w'.ownsRow base 9 1 (.slice A n c) n (sts (stMark k n)) ∧ w.grownBy w' (Value.slice A n c).ownBlock := by
  obtain ⟨A', c', hv, h1, h2, h3⟩ := own_form h
  obtain ⟨rfl, rfl⟩ : A = A' ∧ c = c' := by injection hv with a b d; exact ⟨a, d⟩
  clear hv
  unfold maxLen at h2
  have G := hid (World.grownBy.refl w (Value.slice A n c).ownBlock)
  have LF := hid (show (sts (stMark k n)).length = n by rw [flat_length stC_len, stMark_len, Nat.mul_one])
  go_enter Tryd.func26, Tryd.ntmps26
  go_wp2
  go_loopw [1, 5] (fun q i wr => ∃ (j : Nat) (us : List Value), j ≤ n ∧ i = .int .i64 j ∧ q = .int .i64 ((k + j : Nat) : Int) ∧ wr.ownsRow base 9 1 (.slice A n c) n us ∧ us.take (j) = (sts (stMark k n)).take (j) ∧ w.grownBy wr (Value.slice A n c).ownBlock) (fun _ i _ => n - (intOf i).toNat)
  case atStart => exact ⟨0, _, Nat.zero_le _, rfl, rfl, h, rfl, G.out⟩
  case round =>
    obtain ⟨j, us, hj, rfl, rfl, hown, htk, hg⟩ := hrel
    by_cases hlt : j < n
    · obtain ⟨g, rfl, _, _⟩ : ∃ g, A = some ⟨g, 0, none⟩ ∧ base ≤ g ∧ g < w.heap.size := by
        rcases h3 with rfl | h3
        · rcases h.2 with ⟨_, h0⟩ | ⟨g, cap, cur, hv, _⟩
          · omega
          · cases hv
        · exact h3
      have p0 := sts_at (stMark_at (k := k) hlt)
      have HP := hid (And.intro htk p0)
      clear htk p0 h h3 G
      obtain ⟨kj, hkj⟩ : ∃ kj, kj = k + j := ⟨_, rfl⟩
      rw [← hkj]
      have hkb : kj ≤ 4294967296 + 1048576 := by omega
      have hk1 : 1 ≤ kj := by omega
      have HK := hid hkj; clear hkj
      have HO0 := hid hown
      have HG0 := hid hg
      clear hown hg
      go_wp2_with fail
      refine (markText_at kj _ (by push_cast; omega) (by omega) (by omega) _).mono ?_
      rintro e' w0 ⟨rfl, hE0⟩
      replace HO0 := hid (own_ext HO0.out hE0)
      replace HG0 := hid (HG0.out.trans (grown_of_below hE0.below _))
      clear hE0
      obtain ⟨o0, ho0, hc0⟩ := own_old HO0.out (by simpa using hlt)
      have hf0 := HO0.out.frozenAt (j)
      have HS0 := hid (HO0.out.stored (j) (.string (mtB kj)))
      have HO1 := hid HS0.out.1
      have HG1 := hid (HG0.out.trans HS0.out.2)
      clear ho0 HS0
      go_wp2
      go_roundw
      case rel =>
        obtain ⟨htk, p0⟩ := HP.out
        rw [← HK.out] at p0
        have T0 := take_set_snoc (k := j) htk (by have h1 := HO0.out.1; simp at h1; omega) p0
        exact ⟨j + 1, _, by omega, by go_num, by rw [← Nat.add_assoc, ← HK.out]; go_num, HO1.out, T0, HG1.out⟩
      case measure => simp [intOf]; omega
    · obtain rfl : j = n := by omega
      have R : us = sts (stMark k j) := by
        have h1 := hown.1
        rw [List.take_of_length_le (by omega), List.take_of_length_le (by rw [LF.out]; omega)] at htk
        exact htk
      subst R
      have R := hid (And.intro hown hg)
      clear hown hg htk h h3 G
      go_wp2
      go_ret
      exact ⟨rfl, R.out⟩
theorem markStringS_any (A : Option Addr) (n c : Nat) (q : Int) (k : Nat) (hq : q = (k : Int)) (vs : List Value) (base : Nat) (w : World) (h : w.ownsRow base 9 1 (.slice A n c) n vs) (hn : n ≤ 1048576) (hk : 1 ≤ k) (hk2 : k ≤ 4294967296) :
    Calls Tryd.prog 26 #[.slice A n c, .int .i64 q] w fun e w' => e = .returned (.int .i64 ((k + n : Nat) : Int)) ∧ w'.ownsRow base 9 1 (.slice A n c) n (sts (stMark k n)) ∧ w.grownBy w' (Value.slice A n c).ownBlock := by
  subst hq; exact markStringS_nat A n c k vs base w h hn hk hk2
end Go.Proofs.YtoagpfdhbcgdcaaDoor
end
section
/- The contracts of the program's lists in new memory: String. -/
namespace Go.Proofs.YtoagpfdhbcgdcaaDoor
open Go.RowKit
set_option linter.unusedVariables false
theorem stC_one (x : St) : ∀ u ∈ stC x, u.oneCell' = true := by intro u hu; simp [stC] at hu; rcases hu with rfl <;> rfl
end Go.Proofs.YtoagpfdhbcgdcaaDoor
end
section
/- How the laws' arguments are read: lists of things of several cells, and such things by value. -/
namespace Go.Proofs.YtoagpfdhbcgdcaaDoor
open Go.RowKit Go.ChangeShapes Go.WideShapes Go.Deep
set_option linter.unusedVariables false

section
variable {H : Type} {enc : TypeId × Value → H} {P : Program} {w : World} {base : Nat} {spare : Nat → Bool} {held : Bool}
theorem open_list {α : Type} [Inhabited α] {f : α → List Value} {k : Nat} {ok : α → Prop} {t e : TypeId} (ht : P.underlying t = some (.slice e)) (hC : P.cellsOf e = k) (hlen : ∀ a, (f a).length = k)
    (hread : ∀ n cs x, DataW.trod enc P w base spare held n e cs = some x → ∃ a, cs = f a ∧ ok a) {fuel : Nat} {cs : List Value} {x : DataW H × List MemPlace} (h : DataW.trod enc P w base spare held fuel t cs = some x) :
    ∃ (A : Option Addr) (len cap : Nat) (xs : List α), cs = [.slice A len cap] ∧ Sl w A len cap k (flat f xs) ∧ ∀ a ∈ xs, ok a := by
  rcases open_slice ht h with ⟨h0, _⟩ | ⟨a, len, cap, m, n, D, Pl, hcs, hb, hl, hm, hmm, hx, hi⟩
  · exact ⟨none, 0, 0, [], h0, ⟨.inl rfl, by simp [flat], Nat.le_refl _, Nat.zero_le _⟩, by simp⟩
  · have hlm : len ≤ m := by rw [hmm]; split <;> omega
    obtain ⟨X, hX⟩ := choose_lt (α := α) (n := len) (p := fun i x => (∀ j u, (f x)[j]? = some u → w.cell? (a.add (i * k + j)) = some u) ∧ ok x) (fun i hil => by
      obtain ⟨cs', hc, htr⟩ := hi i (by omega)
      obtain ⟨x, rfl, hok⟩ := hread _ _ _ htr
      obtain ⟨_, _, hat⟩ := World.cells?_some hc
      refine ⟨x, fun j u hu => ?_, hok⟩
      have hj : j < k := by have := (List.getElem?_eq_some_iff.1 hu).1; rwa [hlen] at this
      have := hat j (by rw [hC]; exact hj)
      rw [addr_add, hC] at this
      rw [this, hu])
    refine ⟨some a, len, cap, (List.range len).map X, hcs, ⟨.inr ⟨a, rfl, fun j u hu => ?_⟩, by rw [flat_length hlen]; simp, hl, hm⟩, ?_⟩
    · have hp : 0 < k := by
        rcases Nat.eq_zero_or_pos k with h0 | h0
        · exfalso
          have := (List.getElem?_eq_some_iff.1 hu).1
          rw [flat_length hlen, h0] at this; simp at this
        · exact h0
      have hjl : j < len * k := by have := (List.getElem?_eq_some_iff.1 hu).1; rwa [flat_length hlen, List.length_map, List.length_range] at this
      have hq : j / k < len := Nat.div_lt_of_lt_mul (by rwa [Nat.mul_comm] at hjl)
      have hr : j % k < k := Nat.mod_lt _ hp
      have e1 : j / k * k + j % k = j := by rw [Nat.mul_comm]; exact Nat.div_add_mod j k
      have hg : ((List.range len).map X)[j / k]? = some (X (j / k)) := by simp [hq]
      have h2 := flat_get hlen hg hr
      rw [e1] at h2
      have := (hX _ hq).1 (j % k) u (by rw [← h2]; exact hu)
      rwa [e1] at this
    · intro x hx
      obtain ⟨i, hi', rfl⟩ := List.mem_map.1 hx
      exact (hX i (List.mem_range.1 hi')).2
theorem open_val {α : Type} {f : α → List Value} {ok : α → Prop} {t : TypeId} {fs : Array Field} {r : Reach} {b0 : Nat} {v : Value} {d : DataW H} {p : List MemPlace} (hs : P.underlying t = some (.struct fs))
    (hread : ∀ n cs x, DataW.trod enc P w base spare held n t cs = some x → ∃ a, cs = f a ∧ ok a) (hv : Value.okWide P w r b0 t v) (h : DataW.Trod enc P w base spare held t v d p) :
    ∃ a, v = .agg (f a).toArray ∧ ok a := by
  obtain ⟨cs, rfl, hsz⟩ := okWide_struct hs hv
  obtain ⟨fuel, hf⟩ := h
  obtain ⟨a, ha, hok⟩ := hread _ _ _ hf
  have ha : cs.toList = f a := by simpa [Value.cells] using ha
  exact ⟨a, by rw [← ha], hok⟩
set_option maxRecDepth 4000 in
theorem read_handle : ∀ n cs x, DataW.trod enc Tryd.prog w base spare held n 42 cs = some x → ∃ a : ByteArray × ByteArray, cs = [.string a.1, .string a.2] ∧ (a.1.size ≤ 9223372036854775807 ∧ a.2.size ≤ 9223372036854775807) := by
  intro n cs x h
  have hu := Tryd.underlying42
  obtain ⟨y0, y1, n', _, hl, h0, h1⟩ := trod_struct2 hu h
  obtain ⟨s0, e0, _, b0⟩ := DataW.trod_string Tryd.underlying9 h0
  obtain ⟨s1, e1, _, b1⟩ := DataW.trod_string Tryd.underlying9 h1
  refine ⟨(s0, s1), ?_, ⟨b0, b1⟩⟩
  rw [show Tryd.prog.cellsOf 42 = 2 by kernel_rfl] at hl
  match cs, hl with
  | [c0, c1], _ =>
    have e0' : [c0] = [Value.string s0] := e0
    have e1' : [c1] = [Value.string s1] := e1
    simp at e0' e1'
    rw [e0', e1']
set_option maxRecDepth 4000 in
theorem read_activity : ∀ n cs x, DataW.trod enc Tryd.prog w base spare held n 44 cs = some x → ∃ a : Int × Int × ByteArray × ByteArray × ByteArray, cs = [.int .i64 a.1, .int .i64 a.2.1, .string a.2.2.1, .string a.2.2.2.1, .string a.2.2.2.2] ∧ (a.2.2.1.size ≤ 9223372036854775807 ∧ a.2.2.2.1.size ≤ 9223372036854775807 ∧ a.2.2.2.2.size ≤ 9223372036854775807) := by
  intro n cs x h
  obtain ⟨xs, n', _, _, hl, hlen, hf⟩ := DataW.trod_struct Tryd.underlying44 h
  rw [show Tryd.prog.cellsOf 44 = 5 by kernel_rfl] at hl
  match xs, hlen, cs, hl with
  | [y0, y1, y2, y3], _, [c0, c1, c2, c3, c4], _ =>
    obtain ⟨s0, e0, _, b0⟩ := DataW.trod_int Tryd.underlying3 (hf 0 _ rfl)
    obtain ⟨s1, e1, _, b1⟩ := DataW.trod_int Tryd.underlying3 (hf 1 _ rfl)
    obtain ⟨⟨p, q⟩, e2, b2, b3⟩ := read_handle _ _ _ (hf 2 _ rfl)
    obtain ⟨s4, e4, _, b4⟩ := DataW.trod_string Tryd.underlying9 (hf 3 _ rfl)
    have e0' : [c0] = [Value.int .i64 s0] := e0
    have e1' : [c1] = [Value.int .i64 s1] := e1
    have e2' : [c2, c3] = [Value.string p, Value.string q] := e2
    have e4' : [c4] = [Value.string s4] := e4
    simp at e0' e1' e2' e4'
    exact ⟨(s0, s1, p, q, s4), by rw [e0', e1', e2'.1, e2'.2, e4'], b2, b3, b4⟩
theorem read_string : ∀ n cs x, DataW.trod enc Tryd.prog w base spare held n 9 cs = some x → ∃ a : ByteArray, cs = [.string a] ∧ a.size ≤ 9223372036854775807 := by
  intro n cs x h
  obtain ⟨s0, e0, _, b0⟩ := DataW.trod_string Tryd.underlying9 h
  exact ⟨s0, e0, b0⟩
end
end Go.Proofs.YtoagpfdhbcgdcaaDoor
end
section
/- The contracts of TextValid, the program's and the reference's. -/
namespace Go.Proofs.YtoagpfdhbcgdcaaDoor
open Go.RowKit
set_option linter.unusedVariables false
abbrev isTc (c : Nat) : Prop := 32 ≤ c ∧ c ≤ 126
def textP (s : ByteArray) : Prop := s.size ≤ 80 ∧ ∀ j, j < s.size → isTc (byteAt s j)
instance (s : ByteArray) : Decidable (textP s) := by unfold textP; infer_instance
/-- What TextValid returns. -/
@[irreducible] def textV (s : ByteArray) : Bool := decide (textP s)
theorem textV_yes {s : ByteArray} (h : textP s) : textV s = true := by unfold textV; exact decide_eq_true h
theorem textV_no {s : ByteArray} (h : ¬ textP s) : textV s = false := by unfold textV; exact decide_eq_false h
theorem textV_iff {s : ByteArray} : textV s = true ↔ textP s := by unfold textV; exact decide_eq_true_iff
def TcTo (s : ByteArray) (k : Nat) : Prop := ∀ j, j < k → isTc (byteAt s j)
theorem tcTo_next {s : ByteArray} {k : Nat} (h : TcTo s k) (h1 : isTc (byteAt s k)) : TcTo s (k + 1) := by
  intro j hj
  by_cases e : j = k
  · subst e; exact h1
  · exact h j (by omega)
theorem textI_any (s : ByteArray) (w : World) (hs : s.size ≤ 9223372036854775807) : Calls Tryd.prog 69 #[.string s] w fun e w' => e = .returned (.bool (textV s)) ∧ w = w' := by
  by_cases h8 : s.size ≤ 80
  · have G0 := hid_ (show TcTo s 0 from fun j hj => by omega)
    go_enter Tryd.func69, Tryd.ntmps69
    go_wp2
    go_loop [3] (fun i => ∃ k : Nat, k ≤ s.size ∧ i = .int .i64 k ∧ Hid (TcTo s k)) (fun i => s.size - (intOf i).toNat)
    case atStart => exact ⟨0, by omega, rfl, G0⟩
    case round =>
      obtain ⟨k, hk, rfl, hr⟩ := hrel
      by_cases hlt : k < s.size
      · have hbk := byteAt_get (s := s) (j := k) hlt
        have hub := byteAt_lt s k
        rw [hbk] at hub
        by_cases c0 : s[k].toNat < 32
        · have R := hid_ (textV_no (s := s) fun h => by have := h.2 k hlt; rw [hbk] at this; omega)
          clear hbk hr
          go_wp2
          go_ret
          exact ⟨ret_bool R.out.symm, rfl⟩
        · by_cases c1 : 126 < s[k].toNat
          · have R := hid_ (textV_no (s := s) fun h => by have := h.2 k hlt; rw [hbk] at this; omega)
            clear hbk hr
            go_wp2
            go_ret
            exact ⟨ret_bool R.out.symm, rfl⟩
          · have R := hid_ (tcTo_next hr.out (by rw [hbk]; exact ⟨by omega, by omega⟩))
            clear hbk hr
            go_wp2
            go_round
            case rel => exact ⟨k + 1, by omega, by go_num, R⟩
            case measure => simp [intOf]; omega
      · obtain rfl : k = s.size := by omega
        have R := hid_ (textV_yes (s := s) ⟨h8, hr.out⟩)
        clear hr
        go_wp2
        go_ret
        exact ⟨ret_bool R.out.symm, rfl⟩
  · rw [textV_no (fun h => h8 h.1)]
    go_enter Tryd.func69, Tryd.ntmps69
    go_wp2
    go_ret
    exact ⟨rfl, rfl⟩
theorem textS_any (s : ByteArray) (w : World) (hs : s.size ≤ 9223372036854775807) : Calls Tryd.prog 82 #[.string s] w fun e w' => e = .returned (.bool (textV s)) ∧ w = w' := by
  have G0 := hid_ (show TcTo s 0 from fun j hj => by omega)
  go_enter Tryd.func82, Tryd.ntmps82
  go_wp2
  go_loop [3] (fun i => ∃ k : Nat, k ≤ s.size ∧ i = .int .i64 k ∧ Hid (TcTo s k)) (fun i => s.size - (intOf i).toNat)
  case atStart => exact ⟨0, by omega, rfl, G0⟩
  case round =>
    obtain ⟨k, hk, rfl, hr⟩ := hrel
    by_cases hlt : k < s.size
    · have hbk := byteAt_get (s := s) (j := k) hlt
      have hub := byteAt_lt s k
      rw [hbk] at hub
      by_cases c0 : s[k].toNat < 32
      · have R := hid_ (textV_no (s := s) fun h => by have := h.2 k hlt; rw [hbk] at this; omega)
        clear hbk hr
        go_wp2
        go_ret
        exact ⟨ret_bool R.out.symm, rfl⟩
      · by_cases c1 : 126 < s[k].toNat
        · have R := hid_ (textV_no (s := s) fun h => by have := h.2 k hlt; rw [hbk] at this; omega)
          clear hbk hr
          go_wp2
          go_ret
          exact ⟨ret_bool R.out.symm, rfl⟩
        · have R := hid_ (tcTo_next hr.out (by rw [hbk]; exact ⟨by omega, by omega⟩))
          clear hbk hr
          go_wp2
          go_round
          case rel => exact ⟨k + 1, by omega, by go_num, R⟩
          case measure => simp [intOf]; omega
    · obtain rfl : k = s.size := by omega
      by_cases h8 : s.size ≤ 80
      · have R := hid_ (textV_yes (s := s) ⟨h8, hr.out⟩)
        clear hr
        go_wp2
        go_ret
        exact ⟨ret_bool (by rw [R.out]; simp; omega), rfl⟩
      · have R := hid_ (textV_no (s := s) fun h => h8 h.1)
        clear hr
        go_wp2
        go_ret
        exact ⟨ret_bool (by rw [R.out]; simp; omega), rfl⟩
end Go.Proofs.YtoagpfdhbcgdcaaDoor
end
section
/- The contracts of DigestOf, the program's and the reference's. -/
namespace Go.Proofs.YtoagpfdhbcgdcaaDoor
open Go.RowKit
set_option linter.unusedVariables false
/-- The digest of the first k bytes. -/
def digTo (s : ByteArray) : Nat → Nat
  | 0 => 1
  | k + 1 => (257 * digTo s k + byteAt s k) % 999983
theorem digTo_lt (s : ByteArray) : ∀ k, digTo s k < 999983
  | 0 => by show 1 < 999983; omega
  | k + 1 => by unfold digTo; exact Nat.mod_lt _ (by omega)
/-- What DigestOf returns. -/
@[irreducible] def digV (s : ByteArray) : Int := if textV s = true then (digTo s s.size : Nat) else -1
theorem digV_yes {s : ByteArray} (h : textV s = true) : digV s = (digTo s s.size : Nat) := by unfold digV; rw [if_pos h]
theorem digV_no {s : ByteArray} (h : textV s = false) : digV s = -1 := by unfold digV; rw [if_neg (by rw [h]; simp)]
theorem digTo_next {s : ByteArray} {k q : Nat} {z : Int} (h : digTo s k = q) (e : z = (257 * (q : Int) + (byteAt s k : Nat)) % 999983) : z = (digTo s (k + 1) : Nat) := by
  subst e; subst h
  have : digTo s (k + 1) = (257 * digTo s k + byteAt s k) % 999983 := rfl
  rw [this]
  generalize digTo s k = a
  generalize byteAt s k = b
  omega
theorem digV_range (s : ByteArray) : -1 ≤ digV s ∧ digV s ≤ 999982 := by
  cases h : textV s with
  | false => rw [digV_no h]; omega
  | true => rw [digV_yes h]; have := digTo_lt s s.size; omega
theorem moreI_any (d b : Int) (w : World) (h0 : 0 ≤ d) (h1 : d ≤ 999982) (h2 : 32 ≤ b) (h3 : b ≤ 126) : Calls Tryd.prog 70 #[.int .i64 d, .int .i64 b] w fun e w' => e = .returned (.int .i64 ((257 * d + b) % 999983)) ∧ w = w' := by
  have b1 : inB d 0 999982 = true := inB_yes ⟨h0, h1⟩
  have b2 : inB b 32 126 = true := inB_yes ⟨h2, h3⟩
  have e1 := Int.tmod_eq_emod_of_nonneg (a := 257 * d + b) (b := 999983) (by omega)
  go_enter Tryd.func70, Tryd.ntmps70
  go_wp2_with (go_at_call 49; refine (within_any _ _ _ _).mono ?_; rintro e w' ⟨rfl, rfl⟩)
  go_ret
  exact ⟨rfl, rfl⟩
theorem digI_any (s : ByteArray) (w : World) (hs : s.size ≤ 9223372036854775807) : Calls Tryd.prog 33 #[.string s] w fun e w' => e = .returned (.int .i64 (digV s)) ∧ w = w' := by
  have C := fun W => textI_any s W hs
  cases hv : textV s with
  | false =>
    have R := hid_ (digV_no hv)
    rw [hv] at C
    go_enter Tryd.func33, Tryd.ntmps33
    go_wp2_with fail
    refine (C _).mono ?_
    rintro e w1 ⟨rfl, rfl⟩
    go_wp2
    go_ret
    exact ⟨ret_i64 R.out.symm, rfl⟩
  | true =>
    have R := hid_ (digV_yes hv)
    have HT := hid_ (textV_iff.1 hv).2
    rw [hv] at C
    clear hv
    go_enter Tryd.func33, Tryd.ntmps33
    go_wp2_with fail
    refine (C _).mono ?_
    rintro e w1 ⟨rfl, rfl⟩
    go_wp2
    go_loop [3, 4] (fun d i => ∃ k q : Nat, k ≤ s.size ∧ i = .int .i64 k ∧ d = .int .i64 q ∧ q ≤ 999982 ∧ Hid (digTo s k = q)) (fun _ i => s.size - (intOf i).toNat)
    case atStart => exact ⟨0, 1, by omega, rfl, rfl, by omega, rfl⟩
    case round =>
      obtain ⟨k, q, hk, rfl, rfl, hq, hd⟩ := hrel
      by_cases hlt : k < s.size
      · have hbk := byteAt_get (s := s) (j := k) hlt
        obtain ⟨c0, c1⟩ := HT.out k hlt
        rw [hbk] at c0 c1
        have HB := hid_ hbk
        clear hbk
        go_wp2_with fail
        refine (moreI_any q (s[k].toNat) _ (by omega) (by omega) (by omega) (by omega)).mono ?_
        rintro e w2 ⟨rfl, rfl⟩
        have N := hid_ (digTo_next (s := s) (k := k) hd.out (by rw [HB.out]))
        have hl := digTo_lt s (k + 1)
        clear hd
        rw [N.out]
        go_wp2
        go_round
        case rel => exact ⟨k + 1, digTo s (k + 1), by omega, by go_num, rfl, by omega, rfl⟩
        case measure => simp [intOf]; omega
      · obtain rfl : k = s.size := by omega
        have R2 := hid_ (show (q : Int) = digV s by rw [R.out, hd.out])
        clear hd R
        go_wp2
        go_ret
        exact ⟨ret_i64 R2.out, rfl⟩
theorem digS_any (s : ByteArray) (w : World) (hs : s.size ≤ 9223372036854775807) : Calls Tryd.prog 41 #[.string s] w fun e w' => e = .returned (.int .i64 (digV s)) ∧ Ext.of w w' := by
  have C := fun W => textS_any s W hs
  cases hv : textV s with
  | false =>
    have R := hid_ (digV_no hv)
    rw [hv] at C
    go_enter Tryd.func41, Tryd.ntmps41
    go_wp2_with fail
    refine (C _).mono ?_
    rintro e w1 ⟨rfl, rfl⟩
    go_wp2
    go_ret
    exact ⟨ret_i64 R.out.symm, Ext.of.refl _⟩
  | true =>
    have R := hid_ (digV_yes hv)
    have HT := hid_ (textV_iff.1 hv).2
    rw [hv] at C
    clear hv
    go_enter Tryd.func41, Tryd.ntmps41
    go_wp2_with fail
    refine (C _).mono ?_
    rintro e w1 ⟨rfl, rfl⟩
    go_wp2
    go_loopw [3, 4] (fun d i wr => ∃ k q : Nat, k ≤ s.size ∧ i = .int .i64 k ∧ d = .int .i64 q ∧ q ≤ 999982 ∧ Hid (digTo s k = q) ∧ Ext.of w wr) (fun _ i _ => s.size - (intOf i).toNat)
    case atStart => exact ⟨0, 1, by omega, rfl, rfl, by omega, rfl, Ext.of.refl _⟩
    case round =>
      obtain ⟨k, q, hk, rfl, rfl, hq, hd, hE⟩ := hrel
      by_cases hlt : k < s.size
      · have hbk := byteAt_get (s := s) (j := k) hlt
        obtain ⟨c0, c1⟩ := HT.out k hlt
        rw [hbk] at c0 c1
        have e1 := Int.tmod_eq_emod_of_nonneg (a := 257 * (q : Int) + (s[k].toNat : Int)) (b := 999983) (by omega)
        have N := hid_ (digTo_next (s := s) (k := k) hd.out (by rw [hbk]))
        have hl := digTo_lt s (k + 1)
        clear hd hbk
        rw [N.out] at e1
        go_wp2
        try go_quiet (fail)
        try go_wp2
        go_roundw
        case rel => exact ⟨k + 1, digTo s (k + 1), by omega, by go_num, rfl, by omega, rfl, hE⟩
        case measure => simp [intOf]; omega
      · obtain rfl : k = s.size := by omega
        have R2 := hid_ (show (q : Int) = digV s by rw [R.out, hd.out])
        clear hd R
        go_wp2
        go_ret
        exact ⟨ret_i64 R2.out, hE⟩
end Go.Proofs.YtoagpfdhbcgdcaaDoor
end
