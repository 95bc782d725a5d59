/- The walk of FnExactTakeLines: it returns true and turns nothing that was there. -/
import Derived.Test.YtoagpfdhbcgdcaaDoorTlS
import Derived.Test.YtoagpfdhbcgdcaaDoorTlI
import Derived.Test.YtoagpfdhbcgdcaaDoorIbMark
import Derived.Test.YtoagpfdhbcgdcaaDoorTrSt
import Derived.Test.YtoagpfdhbcgdcaaDoorG4
namespace Go.Proofs.YtoagpfdhbcgdcaaDoor.fnExactTakeLines
open Go.RowKit
set_option linter.unusedVariables false
set_option linter.unusedSimpArgs false
set_option maxHeartbeats 1000000 in
theorem szStringS_all (A : Option Addr) (n c : Nat) (xs : List St) (l : Int) (w : World) (h : Sl w A n c 1 (sts xs)) (h0 : 0 ≤ l) (h1 : l ≤ 1048576) (hx : stOk xs) :
    Calls Tryd.prog 23 #[.slice A n c, .int .i64 l] w fun e w' => ∃ r : Int, e = .returned (.int .i64 r) ∧ r ≤ l ∧ (0 ≤ r → n ≤ 1048576 ∧ ∀ x ∈ xs, x.size ≤ 1048576) ∧ Ext.of w w' := by
  have hmx := h.max
  have hcx := h.cap
  unfold maxLen at hmx
  have hlen : xs.length = n := h.count stC_len (by omega)
  have HL := hid hlen
  clear hlen
  by_cases hn : l - n < 0
  · go_enter Tryd.func23, Tryd.ntmps23
    go_wp2
    go_ret
    exact ⟨_, rfl, by omega, fun h => by omega, Ext.of.refl _⟩
  · have hn' : (n : Int) ≤ l := by omega
    have hz0 : Hid (∀ j x, j < 0 → xs[j]? = some x → (x.size : Int) + (l - n) ≤ l) := hid (fun j x hj => absurd hj (by omega))
    go_enter Tryd.func23, Tryd.ntmps23
    go_wp2
    go_loopw [1, 5] (fun q i wr => ∃ (k : Nat) (r : Int), k ≤ n ∧ i = .int .i64 k ∧ q = .int .i64 r ∧ 0 ≤ r ∧ r + n ≤ l ∧ Hid (∀ j x, j < k → xs[j]? = some x → (x.size : Int) + r ≤ l) ∧ Ext.of w wr) (fun _ i _ => n - (intOf i).toNat)
    case atStart => exact ⟨0, _, Nat.zero_le _, rfl, rfl, by omega, by omega, hz0, Ext.of.refl _⟩
    case round =>
      clear hz0
      obtain ⟨k, r, hk, rfl, rfl, r0, r1, HA, hE⟩ := hrel
      by_cases hlt : k < n
      · obtain ⟨ad, a, rfl, hab, c0⟩ := (h.ext hE).st hlt
        have hs := hx _ (List.mem_of_getElem? hab)
        have HB := hid hab
        clear hab
        have HS := hid hs; clear hs
        have hsz := HS.out
        by_cases hr : r - a.size < 0
        · go_wp2
          go_ret
          exact ⟨_, rfl, by omega, fun h => by omega, hE⟩
        · have HA2 : Hid (∀ j x, j < k + 1 → xs[j]? = some x → (x.size : Int) + (r - a.size) ≤ l) := hid (by
            intro j x hj hjx
            by_cases hjk : j < k
            · have := HA.out j x hjk hjx; omega
            · obtain rfl : j = k := by omega
              have hab := HB.out
              rw [hab] at hjx
              cases hjx
              omega)
          clear HA HB
          go_wp2
          go_roundw
          case rel => exact ⟨k + 1, _, by omega, by go_num, rfl, by omega, by omega, HA2, hE⟩
          case measure => simp [intOf]; omega
      · obtain rfl : k = n := by omega
        go_wp2
        go_ret
        exact ⟨_, rfl, by omega, fun _ => ⟨by omega, fun x hx => by
          obtain ⟨j, hj⟩ := List.getElem?_of_mem hx
          have hjl := (List.getElem?_eq_some_iff.1 hj).1
          have := HA.out j x (by rw [← HL.out]; exact hjl) hj
          omega⟩, hE⟩
theorem tlF_len (xs : List Hd) (zs : List Int) (ls : List ByteArray) : (tlV xs zs ls).1.length ≤ 11 := by
  by_cases h1 : ibV xs zs = true
  · by_cases h2 : ls.length ≤ 30
    · rw [tl_yes h1 h2]
      have h3 := (folV_iff.1 (ib_parts (tlTo_inv (ls := ls) h1 ls.length).1).1).1
      omega
    · rw [tl_no2 h2]; simp
  · rw [tl_no1 (by simpa using h1)]; simp
theorem tlZ_len (xs : List Hd) (zs : List Int) (ls : List ByteArray) : (tlV xs zs ls).2.1.length ≤ 13 := by
  by_cases h1 : ibV xs zs = true
  · by_cases h2 : ls.length ≤ 30
    · rw [tl_yes h1 h2]
      have h3 := (ib_parts (tlTo_inv (ls := ls) h1 ls.length).1).2.1
      omega
    · rw [tl_no2 h2]; simp
  · rw [tl_no1 (by simpa using h1)]; simp
set_option maxRecDepth 8000
set_option maxHeartbeats 20000000 in
theorem walk (A : Option Addr) (n c : Nat) (xs : List Hd) (B : Option Addr) (m d : Nat) (zs : List Int) (La : Option Addr) (nl cl : Nat) (ls : List ByteArray) (w : World) (hM : ML w) (hK : KW w) (w0 : Sl w A n c 2 (hds xs) ∧ hdOk xs) (w1 : Sl w B m d 1 (ints zs)) (w2 : Sl w La nl cl 1 (sts ls) ∧ stOk ls) :
    Calls Tryd.prog 6 #[ibA A n c B m d, .slice La nl cl] w fun e w' => e = .returned (.bool true) ∧ Below w.heap.size w w' := by
  obtain ⟨S1, hok⟩ := w0
  have HOK := hid hok
  have S2 := w1
  obtain ⟨S3, hok3⟩ := w2
  have HOK3 := hid hok3
  clear hok hok3 w1
  have hE : Ext.of w (w.alloc (.cells #[.slice A n c, .slice B m d] 41)) := (Ext.of.refl _).alloc _
  have hx : (w.alloc (.cells #[.slice A n c, .slice B m d] 41)).heap[w.heap.size]? = some (.cells #[.slice A n c, .slice B m d] 41 (0, 0)) := alloc_new' rfl
  go_enter Tryd.func6, Tryd.ntmps6
  have b0 := cell_of_row _ w.heap.size 0 _ _ _ hx
  have b1 := cell_of_row _ w.heap.size 1 _ _ _ hx
  go_wp2_with fail
  generalize w.alloc (.cells #[.slice A n c, .slice B m d] 41) = V at *
  refine (szInbox_le _ _ _ xs _ _ _ zs 1048576 _ (S1.ext hE) HOK.out (S2.ext hE) (by omega) (by omega)).mono ?_
  rintro e1 v1 ⟨r, rfl, hrl, hr, x1⟩
  by_cases hr0 : r < 0
  · clear hr
    go_wp2_with fail
    go_ret
    exact ⟨rfl, (hE.trans x1).below⟩
  · obtain ⟨hn, hm⟩ := hr (by omega)
    clear hr b0 b1
    have V1 := x1.below
    have hx := (V1.block _ (Array.getElem?_eq_some_iff.1 hx).1).trans hx
    have hE := hE.trans x1
    clear x1 V1
    go_wp2_with fail
    refine (szStringS_all La nl cl ls r _ (S3.ext hE) (by omega) (by omega) HOK3.out).mono ?_
    rintro e1 wA ⟨r2, rfl, r3, r4, x1⟩
    by_cases hr2 : r2 < 0
    · clear r4
      go_wp2_with fail
      go_ret
      exact ⟨rfl, (hE.trans x1).below⟩
    · have hE := hE.trans x1
      obtain ⟨hnl, hls⟩ := r4 (by omega)
      have HLS := hid (show ∀ l ∈ ls, l.size < 4294967281 from fun l hl => by have := hls l hl; omega)
      clear r4 hls
      have V1 := x1.below
      have hx := (V1.block _ (Array.getElem?_eq_some_iff.1 hx).1).trans hx
      clear x1 V1
      have S1 := S1.ext hE
      have S2 := S2.ext hE
      have S3 := S3.ext hE
      have KV := hid (hK.ext hE)
      have KM := hid (hM.ext hE)
      have hVw := hE.below
      clear hE hK hM
      have TS := fun W C n' D m' L l' (h1 : Sl W C n n' 2 (hds xs)) (h2 : Sl W D m m' 1 (ints zs)) (h3 : Sl W L nl l' 1 (sts ls)) => tlS_any C n n' xs D m m' zs L nl l' ls W h1 HOK.out h2 h3 HLS.out
      have TI := fun W (hW : ML W) (hW2 : KW W) C n' D m' L l' (h1 : Sl W C n n' 2 (hds xs)) (h2 : Sl W D m m' 1 (ints zs)) (h3 : Sl W L nl l' 1 (sts ls)) => tlI_any C n n' xs D m m' zs L nl l' ls W hW hW2 h1 HOK.out h2 h3 HLS.out
      have FL := tlF_len xs zs ls
      have ZL := tlZ_len xs zs ls
      generalize tlV xs zs ls = T at *
      obtain ⟨F, Z, q⟩ := T
      simp only at FL ZL TS TI
      have KA := Below.refl wA.heap.size wA
      have b0 := cell_of_row _ w.heap.size 0 _ _ _ hx
      have b1 := cell_of_row _ w.heap.size 1 _ _ _ hx
      go_wp2_with fail
      refine (toInbox_any A n c xs B m d zs _ S1 S2 hn hm).mono ?_
      rintro e1 v1 ⟨C1, D1, rfl, s3, s4, x1⟩
      have KA := below_next KA x1.below
      clear x1 b0 b1
      go_wp2_with fail
      refine (toStringS_any La nl cl ls _ (S3.below KA) hnl).mono ?_
      rintro e1 v2 ⟨rfl, ol, x1⟩
      have s5 := own_sl ol
      have s3 := s3.below x1
      have s4 := s4.below x1
      have KA := below_next KA x1
      clear x1 ol
      generalize v1.heap.size = NL1 at *
      go_wp2_with fail
      refine (TS _ _ _ _ _ _ _ s3 s4 s5).mono ?_
      rintro e1 v3 ⟨h1, x1⟩
      have KA := below_next KA x1
      obtain ⟨C6, n6, c6, D6, m6, d6, rfl, s6a, s6b, _, _⟩ := h1
      have s6a := own_sl s6a
      clear x1 s3 s4 s5
      have h6 : (v3.alloc (.cells #[.slice C6 n6 c6, .slice D6 m6 d6] 26)).heap[v3.heap.size]? = some (.cells #[.slice C6 n6 c6, .slice D6 m6 d6] 26 (0, 0)) := alloc_new' rfl
      have bx : Below v3.heap.size v3 (v3.alloc (.cells #[.slice C6 n6 c6, .slice D6 m6 d6] 26)) := (Below.refl _ _).alloc (Nat.le_refl _) _
      have s6a := s6a.below bx
      have s6b := s6b.below bx
      have KA := below_next KA bx
      have hx8 := (KA.block _ (Array.getElem?_eq_some_iff.1 hx).1).trans hx
      have b0 := cell_of_row _ w.heap.size 0 _ _ _ hx8
      have b1 := cell_of_row _ w.heap.size 1 _ _ _ hx8
      clear bx
      go_wp2_with fail
      generalize v3.alloc (.cells #[.slice C6 n6 c6, .slice D6 m6 d6] 26) = w8 at *
      generalize v3.heap.size = g6 at *
      have K8 := Below.refl w8.heap.size w8
      have hA8 : wA.heap.size ≤ w8.heap.size := KA.size
      refine (toInbox_own A n c xs B m d zs _ (S1.below KA) (S2.below KA) hn hm).mono ?_
      rintro e1 w9 ⟨C3, D3, rfl, o8a, o8b, x9⟩
      have KA := below_next KA x9.below
      have K8 := below_next K8 x9.below
      clear b0 b1 hx8
      have hb8 : (w9.alloc (.cells #[.slice C3 n n, .slice D3 m m] 26)).heap[w9.heap.size]? = some (.cells #[.slice C3 n n, .slice D3 m m] 26 (0, 0)) := alloc_new' rfl
      have KA := KA.alloc KA.size (.cells #[.slice C3 n n, .slice D3 m m] 26)
      have K8 := K8.alloc K8.size (.cells #[.slice C3 n n, .slice D3 m m] 26)
      have o8a := o8a.alloc (.cells #[.slice C3 n n, .slice D3 m m] 26)
      have o8b := o8b.alloc (.cells #[.slice C3 n n, .slice D3 m m] 26)
      clear x9
      go_wp2_with fail
      generalize w9.alloc (.cells #[.slice C3 n n, .slice D3 m m] 26) = w0 at *
      generalize w9.heap.size = g8 at *
      refine (toStringS_any La nl cl ls _ (S3.below KA) hnl).mono ?_
      rintro e1 w10 ⟨rfl, ol, x1⟩
      have X8a := hid (fun k (e : (Value.slice C3 n n).ownBlock = some k) => (o8a.lt k e).2)
      have X8b := hid (fun k (e : (Value.slice D3 m m).ownBlock = some k) => (o8b.lt k e).2)
      have L8a := hid (fun k (e : (Value.slice C3 n n).ownBlock = some k) => (o8a.lt k e).1)
      have L8b := hid (fun k (e : (Value.slice D3 m m).ownBlock = some k) => (o8b.lt k e).1)
      have h8N : w8.heap.size ≤ w0.heap.size := K8.size
      have hb8 := (x1.block _ (Array.getElem?_eq_some_iff.1 hb8).1).trans hb8
      have o8a := own_below o8a x1
      have o8b := own_below o8b x1
      have KA := below_next KA x1
      have K8 := below_next K8 x1
      have hNL : w0.heap.size ≤ w10.heap.size := x1.size
      clear x1
      generalize w0.heap.size = NL at *
      have z0 := cell_of_row _ g8 0 _ _ _ hb8
      have z1 := cell_of_row _ g8 1 _ _ _ hb8
      go_wp2_with fail
      refine (TI _ (KM.out.below KA) (KV.out.below KA) _ _ _ _ _ _ (own_sl o8a) (own_sl o8b) (own_sl ol)).mono ?_
      rintro e1 w11 ⟨h1, x1⟩
      obtain ⟨C9, n9, c9, D9, m9, d9, rfl, o9a, _, _, o9b⟩ := h1
      have o9b := o9b trivial
      have en9 := own_count o9a hdC_len (by omega)
      have em9 : m9 = Z.length := by have := (own_sl o9b).len; simpa using this.symm
      have hn9 : n9 ≤ 11 := by omega
      have hm9 : m9 ≤ 13 := by omega
      have XL := hid (fun k (e : (Value.slice (some ⟨NL, 0, none⟩) nl nl).ownBlock = some k) => (ol.lt k e).2)
      have LL := hid (fun k (e : (Value.slice (some ⟨NL, 0, none⟩) nl nl).ownBlock = some k) => (ol.lt k e).1)
      have hb8 := (x1.block _ (Array.getElem?_eq_some_iff.1 hb8).1).trans hb8
      have o8a := own_below o8a x1
      have o8b := own_below o8b x1
      have ol := own_below ol x1
      have KA := below_next KA x1
      have K8 := below_next K8 x1
      have h10 : w10.heap.size ≤ w11.heap.size := x1.size
      clear x1 z0 z1 en9 em9 FL ZL
      generalize w10.heap.size = N10 at *
      have h9 : (w11.alloc (.cells #[.slice C9 n9 c9, .slice D9 m9 d9] 26)).heap[w11.heap.size]? = some (.cells #[.slice C9 n9 c9, .slice D9 m9 d9] 26 (0, 0)) := alloc_new' rfl
      have bx : Below w11.heap.size w11 (w11.alloc (.cells #[.slice C9 n9 c9, .slice D9 m9 d9] 26)) := (Below.refl _ _).alloc (Nat.le_refl _) _
      have hb8 := (bx.block _ (Array.getElem?_eq_some_iff.1 hb8).1).trans hb8
      have o8a := own_below o8a bx
      have o8b := own_below o8b bx
      have ol := own_below ol bx
      have o9a := own_below o9a bx
      have o9b := own_below o9b bx
      have KA := below_next KA bx
      have K8 := below_next K8 bx
      clear bx
      have hq : (q == q) = true := by simp
      have h6c := (K8.block _ (Array.getElem?_eq_some_iff.1 h6).1).trans h6
      have y0 := cell_of_row _ w11.heap.size 0 _ _ _ h9
      have y1 := cell_of_row _ w11.heap.size 1 _ _ _ h9
      have v0 := cell_of_row _ g6 0 _ _ _ h6c
      have v1 := cell_of_row _ g6 1 _ _ _ h6c
      go_wp2_with fail
      generalize w11.alloc (.cells #[.slice C9 n9 c9, .slice D9 m9 d9] 26) = w12 at *
      obtain ⟨g9, hg9⟩ : ∃ g9, g9 = w11.heap.size := ⟨_, rfl⟩
      simp only [← hg9] at *
      clear hg9
      have I8a := hid (fun (e : (Value.slice C3 n n).ownBlock = some g9) => (show False by have := X8a.out g9 e; omega))
      have I8b := hid (fun (e : (Value.slice D3 m m).ownBlock = some g9) => (show False by have := X8b.out g9 e; omega))
      have IL := hid (fun (e : (Value.slice (some ⟨NL, 0, none⟩) nl nl).ownBlock = some g9) => (show False by have := XL.out g9 e; omega))
      refine (eqInbox_same _ _ _ _ _ _ _ _ _ _ _ _ F Z _ (own_sl o9a) (own_sl o9b) (s6a.below K8) (s6b.below K8)).mono ?_
      rintro e1 w0 ⟨rfl, x1⟩
      have x1 := x1.below
      clear h6c y0 y1 v0 v1
      have hb8 := (x1.block _ (Array.getElem?_eq_some_iff.1 hb8).1).trans hb8
      have h9 := (x1.block _ (Array.getElem?_eq_some_iff.1 h9).1).trans h9
      have o8a := own_below o8a x1
      have o8b := own_below o8b x1
      have ol := own_below ol x1
      have o9a := own_below o9a x1
      have o9b := own_below o9b x1
      have KA := below_next KA x1
      have K8 := below_next K8 x1
      clear x1
      have hxc := (KA.block _ (Array.getElem?_eq_some_iff.1 hx).1).trans hx
      have b0 := cell_of_row _ w.heap.size 0 _ _ _ hxc
      have b1 := cell_of_row _ w.heap.size 1 _ _ _ hxc
      have z0 := cell_of_row _ g8 0 _ _ _ hb8
      have z1 := cell_of_row _ g8 1 _ _ _ hb8
      have S1c := S1.below KA
      have S2c := S2.below KA
      go_wp2_with fail
      refine wp_region_env (W := fun _ w' => Ext.of w0 w') (dead := fun i j => i == 99 && (false)) (Tr := TrSt 99) (F := fun i env w' => match i with
          | 0 => env 0 = ibA C3 n n D3 m m
          | 1 => env 1 = ibA A n c B m d
          | 2 => ∃ C D, env 2 = ibA C n n D m m ∧ Sl w' C n n 2 (hds xs) ∧ Sl w' D m m 1 (ints zs)
          | 3 => env 3 = .bool true
          | 4 => env 4 = .bool false
          | _ => True) (by kernel_rfl) (by kernel_rfl) (by kernel_rfl) ?_ ?_ ?_ ?_ ?_
      · exact Ext.of.drew (Ext.of.refl _)
      · intro j env env' w hj he hF
        match j with
        | 0 => exact (he 0 (.inl rfl)).symm.trans hF
        | 1 => exact (he 1 (.inl rfl)).symm.trans hF
        | 2 => obtain ⟨C, D, e, r⟩ := hF; exact ⟨C, D, (he 2 (.inl rfl)).symm.trans e, r⟩
        | 3 => exact (he 3 (.inl rfl)).symm.trans hF
        | 4 => exact (he 4 (.inl rfl)).symm.trans hF
        | _ + 5 => exact hF
      · intro i j kk env a b hi hj hne hdd haa hW hT hF
        by_cases es : i = 99
        · subst es
          exact absurd hi (of_decide_eq_false (by kernel_rfl))
        · have hB := hT.other es
          match j with
          | 0 => exact hF
          | 1 => exact hF
          | 2 => obtain ⟨C, D, e, s1, s2⟩ := hF; exact ⟨C, D, e, s1.ext hB, s2.ext hB⟩
          | 3 => exact hF
          | 4 => exact hF
          | _ + 5 => exact hF
      · refine ⟨fun kk ρ env u hk hc hf hg ht hW hd => ?_, ?_⟩
        · have p0 : ρ (.tmp 8) = .pointer (some ⟨g8, 0, none⟩) := (ht 8).trans (by kernel_rfl)
          have y0 := hW.cell z0
          have y1 := hW.cell z1
          exact yield_value (w' := u) (ibA C3 n n D3 m m) (by simp [go_sem, hc, hf, p0, y0, y1]) ⟨upd_same _ _ _, hW, TrSt.ext (by decide) (Ext.of.refl _)⟩
        refine ⟨fun kk ρ env u hk hc hf hg ht hW hd => ?_, ?_⟩
        · have p0 : ρ (.tmp 2) = .pointer (some ⟨w.heap.size, 0, none⟩) := (ht 2).trans (by kernel_rfl)
          have y0 := hW.cell b0
          have y1 := hW.cell b1
          exact yield_value (w' := u) (ibA A n c B m d) (by simp [go_sem, hc, hf, p0, y0, y1]) ⟨upd_same _ _ _, hW, TrSt.ext (by decide) (Ext.of.refl _)⟩
        refine ⟨fun kk ρ env u hk hc hf hg ht hW hd => ?_, ?_⟩
        · have e1 : ρ (.tmp 55) = env 1 := (ht 55).trans (by kernel_rfl)
          have q1 : env 1 = ibA A n c B m d := hd.1 rfl
          rw [q1] at e1
          refine yield_call 15 #[ibA A n c B m d] (by simp [go_sem, hc, hf, e1]) ?_
          refine (toInbox_any A n c xs B m d zs _ (S1c.ext hW) (S2c.ext hW) hn hm).mono ?_
          rintro e w' ⟨C, D, rfl, s3, s4, x⟩
          exact ⟨_, rfl, ⟨C, D, upd_same _ _ _, s3, s4⟩, hW.trans x, TrSt.ext (by decide) x⟩
        refine ⟨fun kk ρ env u hk hc hf hg ht hW hd => ?_, ?_⟩
        · have e0 : ρ (.tmp 54) = env 0 := (ht 54).trans (by kernel_rfl)
          have e2 : ρ (.tmp 56) = env 2 := (ht 56).trans (by kernel_rfl)
          have q0 : env 0 = ibA C3 n n D3 m m := hd.1 rfl
          obtain ⟨C, D, q2, s3, s4⟩ : ∃ C D, env 2 = ibA C n n D m m ∧ Sl u C n n 2 (hds xs) ∧ Sl u D m m 1 (ints zs) := hd.2.1 rfl
          rw [q0] at e0
          rw [q2] at e2
          refine yield_call 17 #[ibA C3 n n D3 m m, ibA C n n D m m] (by simp [go_sem, hc, hf, e0, e2]) ?_
          refine (eqInbox_same _ _ _ _ _ _ _ _ _ _ _ _ xs zs _ (own_sl (own_ext o8a hW)) (own_sl (own_ext o8b hW)) s3 s4).mono ?_
          rintro e w' ⟨rfl, x⟩
          exact ⟨_, rfl, upd_same _ _ _, hW.trans x, TrSt.ext (by decide) x⟩
        refine ⟨fun kk ρ env u hk hc hf hg ht hW hd => ?_, ?_⟩
        · have e3 : ρ (.tmp 57) = env 3 := (ht 57).trans (by kernel_rfl)
          have q3 : env 3 = .bool true := hd.1 rfl
          rw [q3] at e3
          exact yield_value (w' := u) (.bool false) (by simp [go_sem, hc, hf, e3]) ⟨upd_same _ _ _, hW, TrSt.ext (by decide) (Ext.of.refl _)⟩
        trivial
      intro env w13 hW hF
      have ev : env 4 = .bool false := hF 4 (of_decide_eq_true (by kernel_rfl)) (fun i hi => by match i with | 0 | 1 | 2 | 3 | 4 => rfl | _ + 5 => simp at hi; omega)
      clear hF
      have hrng : List.range 119 = [0, 1, 2, 3, 4, 5, 6, 7, 8, 9, 10, 11, 12, 13, 14, 15, 16, 17, 18, 19, 20, 21, 22, 23, 24, 25, 26, 27, 28, 29, 30, 31, 32, 33, 34, 35, 36, 37, 38, 39, 40, 41, 42, 43, 44, 45, 46, 47, 48, 49, 50, 51, 52, 53, 54, 55, 56, 57, 58, 59, 60, 61, 62, 63, 64, 65, 66, 67, 68, 69, 70, 71, 72, 73, 74, 75, 76, 77, 78, 79, 80, 81, 82, 83, 84, 85, 86, 87, 88, 89, 90, 91, 92, 93, 94, 95, 96, 97, 98, 99, 100, 101, 102, 103, 104, 105, 106, 107, 108, 109, 110, 111, 112, 113, 114, 115, 116, 117, 118] := by kernel_rfl
      unfold after
      simp only [List.size_toArray, List.length_cons, List.length_nil, Nat.reduceAdd, hrng, List.map_cons, List.map_nil]
      simp [idxOf, List.findIdx?, List.findIdx?.go, ev]
      clear hrng
      clear ev b0 b1 z0 z1 hxc S1c S2c
      have x1 := hW.below
      clear hW
      have hb8 := (x1.block _ (Array.getElem?_eq_some_iff.1 hb8).1).trans hb8
      have h9 := (x1.block _ (Array.getElem?_eq_some_iff.1 h9).1).trans h9
      have o8a := own_below o8a x1
      have o8b := own_below o8b x1
      have ol := own_below ol x1
      have o9a := own_below o9a x1
      have o9b := own_below o9b x1
      have KA := below_next KA x1
      have K8 := below_next K8 x1
      clear x1
      go_wp2_with fail
      refine (toStringS_any La nl cl ls _ (S3.below KA) hnl).mono ?_
      rintro e1 w14 ⟨rfl, o5, x1⟩
      have hb8 := (x1.block _ (Array.getElem?_eq_some_iff.1 hb8).1).trans hb8
      have h9 := (x1.block _ (Array.getElem?_eq_some_iff.1 h9).1).trans h9
      have o8a := own_below o8a x1
      have o8b := own_below o8b x1
      have ol := own_below ol x1
      have o9a := own_below o9a x1
      have o9b := own_below o9b x1
      have KA := below_next KA x1
      have K8 := below_next K8 x1
      clear x1
      generalize w13.heap.size = N13 at *
      go_wp2_with fail
      refine (eqStringS_any _ _ _ _ _ _ ls ls _ (own_sl ol) (own_sl o5)).mono ?_
      rintro e1 w15 ⟨rfl, x1⟩
      have x1 := x1.below
      have hll : decide (ls = ls) = true := by simp
      rw [hll]
      clear hll o5
      have hb8 := (x1.block _ (Array.getElem?_eq_some_iff.1 hb8).1).trans hb8
      have h9 := (x1.block _ (Array.getElem?_eq_some_iff.1 h9).1).trans h9
      have o8a := own_below o8a x1
      have o8b := own_below o8b x1
      have ol := own_below ol x1
      have o9a := own_below o9a x1
      have o9b := own_below o9b x1
      have KA := below_next KA x1
      have K8 := below_next K8 x1
      clear x1
      have z0 := cell_of_row _ g8 0 _ _ _ hb8
      have z1 := cell_of_row _ g8 1 _ _ _ hb8
      go_wp2_with fail
      refine (markInbox_any C3 n n D3 m m 1 1 rfl _ _ _ _ _ o8a o8b hn hm (by omega) (by omega)).mono ?_
      rintro e1 w16 ⟨rfl, _, _, u, g1, g2⟩
      have H9N := hid (show NL ≤ N10 from hNL)
      have ol := own_row ol g1 (fun k e => X8a.out k e)
      have o9a := own_row o9a g1 (fun k e => Nat.lt_of_lt_of_le (X8a.out k e) H9N.out)
      have o9b := own_row o9b g1 (fun k e => Nat.lt_of_lt_of_le (X8a.out k e) H9N.out)
      have KA := KA.grown g1 KA.size (fun k e => Nat.le_trans hA8 (L8a.out k e))
      have K8 := K8.grown g1 K8.size (fun k e => L8a.out k e)
      have h9 := (g1.block _ (Array.getElem?_eq_some_iff.1 h9).1 (fun e => I8a.out e.symm)).trans h9
      have ol := own_row ol g2 (fun k e => X8b.out k e)
      have o9a := own_row o9a g2 (fun k e => Nat.lt_of_lt_of_le (X8b.out k e) H9N.out)
      have o9b := own_row o9b g2 (fun k e => Nat.lt_of_lt_of_le (X8b.out k e) H9N.out)
      have KA := KA.grown g2 KA.size (fun k e => Nat.le_trans hA8 (L8b.out k e))
      have K8 := K8.grown g2 K8.size (fun k e => L8b.out k e)
      have h9 := (g2.block _ (Array.getElem?_eq_some_iff.1 h9).1 (fun e => I8b.out e.symm)).trans h9
      clear g1 g2 hb8 z0 z1 X8a X8b L8a L8b I8a I8b
      obtain ⟨k1, hk1⟩ : ∃ k1, k1 = 1 + n * 2 + m := ⟨_, rfl⟩
      rw [← hk1]
      have hk2 : 1 ≤ k1 ∧ k1 ≤ 1 + 3 * 1048576 := by omega
      clear hk1
      go_wp2_with fail
      refine (markStringS_any _ nl nl _ k1 rfl _ _ _ ol hnl hk2.1 (by omega)).mono ?_
      rintro e1 w17 ⟨rfl, _, g1⟩
      have o9a := own_row o9a g1 (fun k e => XL.out k e)
      have o9b := own_row o9b g1 (fun k e => XL.out k e)
      have KA := KA.grown g1 KA.size (fun k e => Nat.le_trans hA8 ((Nat.le_trans h8N (LL.out k e))))
      have K8 := K8.grown g1 K8.size (fun k e => (Nat.le_trans h8N (LL.out k e)))
      have h9 := (g1.block _ (Array.getElem?_eq_some_iff.1 h9).1 (fun e => IL.out e.symm)).trans h9
      clear g1 XL LL IL ol H9N
      obtain ⟨k2, hk3⟩ : ∃ k2, k2 = k1 + nl := ⟨_, rfl⟩
      rw [← hk3]
      have hk4 : k2 ≤ 1 + 4 * 1048576 := by omega
      clear hk3 hk2
      have h6c := (K8.block _ (Array.getElem?_eq_some_iff.1 h6).1).trans h6
      have y0 := cell_of_row _ g9 0 _ _ _ h9
      have y1 := cell_of_row _ g9 1 _ _ _ h9
      have v0 := cell_of_row _ g6 0 _ _ _ h6c
      have v1 := cell_of_row _ g6 1 _ _ _ h6c
      go_wp2_with fail
      refine (eqInbox_same _ _ _ _ _ _ _ _ _ _ _ _ F Z _ (own_sl o9a) (own_sl o9b) (s6a.below K8) (s6b.below K8)).mono ?_
      rintro e1 w18 ⟨rfl, x1⟩
      have x1 := x1.below
      clear h6c y0 y1 v0 v1
      have h9 := (x1.block _ (Array.getElem?_eq_some_iff.1 h9).1).trans h9
      have o9a := own_below o9a x1
      have o9b := own_below o9b x1
      have KA := below_next KA x1
      have K8 := below_next K8 x1
      clear x1
      have y0 := cell_of_row _ g9 0 _ _ _ h9
      have y1 := cell_of_row _ g9 1 _ _ _ h9
      go_wp2_with fail
      refine (markInbox_any C9 n9 c9 D9 m9 d9 1 1 rfl _ _ _ _ _ o9a o9b (by omega) (by omega) (by omega) (by omega)).mono ?_
      rintro e1 w19 ⟨rfl, m9a, m9b, u, g1, g2⟩
      have I9a := hid (fun (e : (Value.slice C9 n9 c9).ownBlock = some g9) => own_ne o9a h9 (by decide) e)
      have I9b := hid (fun (e : (Value.slice D9 m9 d9).ownBlock = some g9) => own_ne o9b h9 (by decide) e)
      have KA := KA.grown g1 KA.size (fun k e => Nat.le_trans hA8 (Nat.le_trans (Nat.le_trans h8N hNL) (o9a.lt k e).1))
      have K8 := K8.grown g1 K8.size (fun k e => Nat.le_trans (Nat.le_trans h8N hNL) (o9a.lt k e).1)
      have h9 := (g1.block _ (Array.getElem?_eq_some_iff.1 h9).1 (fun e => I9a.out e.symm)).trans h9
      have KA := KA.grown g2 KA.size (fun k e => Nat.le_trans hA8 (Nat.le_trans (Nat.le_trans h8N hNL) (o9b.lt k e).1))
      have K8 := K8.grown g2 K8.size (fun k e => Nat.le_trans (Nat.le_trans h8N hNL) (o9b.lt k e).1)
      have h9 := (g2.block _ (Array.getElem?_eq_some_iff.1 h9).1 (fun e => I9b.out e.symm)).trans h9
      have o9a := m9a
      have o9b := m9b
      clear g1 g2 m9a m9b I9a I9b y0 y1
      obtain ⟨k3, hk3⟩ : ∃ k3, k3 = 1 + n9 * 2 + m9 := ⟨_, rfl⟩
      have HK3 := hid hk3
      have hk5 : k3 ≤ 100 := by omega
      rw [← hk3]
      clear hk3
      have y0 := cell_of_row _ g9 0 _ _ _ h9
      have y1 := cell_of_row _ g9 1 _ _ _ h9
      go_wp2_with fail
      refine (heldInbox_any C9 n9 c9 D9 m9 d9 1 1 rfl _ (own_sl o9a) (own_sl o9b) (by omega) (by omega) (by omega) (by omega)).mono ?_
      rintro e1 w20 ⟨rfl, x1⟩
      have x1 := x1.below
      rw [← HK3.out]
      clear y0 y1
      have h9 := (x1.block _ (Array.getElem?_eq_some_iff.1 h9).1).trans h9
      have o9a := own_below o9a x1
      have o9b := own_below o9b x1
      have KA := below_next KA x1
      have K8 := below_next K8 x1
      clear x1
      have hxc := (KA.block _ (Array.getElem?_eq_some_iff.1 hx).1).trans hx
      have b0 := cell_of_row _ w.heap.size 0 _ _ _ hxc
      have b1 := cell_of_row _ w.heap.size 1 _ _ _ hxc
      go_wp2_with fail
      refine (toInbox_any A n c xs B m d zs _ (S1.below KA) (S2.below KA) hn hm).mono ?_
      rintro e1 v1 ⟨C1, D1, rfl, s3, s4, x1⟩
      have x1 := x1.below
      have h9 := (x1.block _ (Array.getElem?_eq_some_iff.1 h9).1).trans h9
      have o9a := own_below o9a x1
      have o9b := own_below o9b x1
      have KA := below_next KA x1
      have K8 := below_next K8 x1
      clear x1
      clear b0 b1 hxc
      go_wp2_with fail
      refine (toStringS_any La nl cl ls _ (S3.below KA) hnl).mono ?_
      rintro e1 v2 ⟨rfl, ol, x1⟩
      have s5 := own_sl ol
      have s3 := s3.below x1
      have s4 := s4.below x1
      have h9 := (x1.block _ (Array.getElem?_eq_some_iff.1 h9).1).trans h9
      have o9a := own_below o9a x1
      have o9b := own_below o9b x1
      have KA := below_next KA x1
      have K8 := below_next K8 x1
      clear x1
      clear ol
      generalize v1.heap.size = NL1 at *
      go_wp2_with fail
      refine (TI _ (KM.out.below KA) (KV.out.below KA) _ _ _ _ _ _ s3 s4 s5).mono ?_
      rintro e1 w21 ⟨h1, x1⟩
      obtain ⟨C14, n14, c14, D14, m14, d14, rfl, o14a, o14b, _, _⟩ := h1
      have o14a := own_sl o14a
      have h9 := (x1.block _ (Array.getElem?_eq_some_iff.1 h9).1).trans h9
      have o9a := own_below o9a x1
      have o9b := own_below o9b x1
      have KA := below_next KA x1
      have K8 := below_next K8 x1
      clear x1
      clear s3 s4 s5
      have h14 : (w21.alloc (.cells #[.slice C14 n14 c14, .slice D14 m14 d14] 26)).heap[w21.heap.size]? = some (.cells #[.slice C14 n14 c14, .slice D14 m14 d14] 26 (0, 0)) := alloc_new' rfl
      have bx : Below w21.heap.size w21 (w21.alloc (.cells #[.slice C14 n14 c14, .slice D14 m14 d14] 26)) := (Below.refl _ _).alloc (Nat.le_refl _) _
      have h9 := (bx.block _ (Array.getElem?_eq_some_iff.1 h9).1).trans h9
      have o9a := own_below o9a bx
      have o9b := own_below o9b bx
      have o14a := o14a.below bx
      have o14b := o14b.below bx
      have KA := below_next KA bx
      have K8 := below_next K8 bx
      have h6c := (K8.block _ (Array.getElem?_eq_some_iff.1 h6).1).trans h6
      have y0 := cell_of_row _ w21.heap.size 0 _ _ _ h14
      have y1 := cell_of_row _ w21.heap.size 1 _ _ _ h14
      have v0 := cell_of_row _ g6 0 _ _ _ h6c
      have v1 := cell_of_row _ g6 1 _ _ _ h6c
      clear bx
      go_wp2_with fail
      generalize w21.alloc (.cells #[.slice C14 n14 c14, .slice D14 m14 d14] 26) = w22 at *
      refine (eqInbox_same _ _ _ _ _ _ _ _ _ _ _ _ F Z _ o14a o14b (s6a.below K8) (s6b.below K8)).mono ?_
      rintro e1 w23 ⟨rfl, x1⟩
      have x1 := x1.below
      clear h6c y0 y1 v0 v1 o14a o14b h14
      have h9 := (x1.block _ (Array.getElem?_eq_some_iff.1 h9).1).trans h9
      have o9a := own_below o9a x1
      have o9b := own_below o9b x1
      have KA := below_next KA x1
      have K8 := below_next K8 x1
      clear x1
      have y0 := cell_of_row _ g9 0 _ _ _ h9
      have y1 := cell_of_row _ g9 1 _ _ _ h9
      go_wp2_with fail
      refine (heldInbox_any C9 n9 c9 D9 m9 d9 1 1 rfl _ (own_sl o9a) (own_sl o9b) (by omega) (by omega) (by omega) (by omega)).mono ?_
      rintro e1 w24 ⟨rfl, x1⟩
      have x1 := x1.below
      rw [← HK3.out]
      clear y0 y1
      have KA := below_next KA x1
      go_wp2_with fail
      go_ret
      exact ⟨rfl, below_next hVw KA⟩
end Go.Proofs.YtoagpfdhbcgdcaaDoor.fnExactTakeLines
