/- The contracts of NamesAt and HostsOf. -/
import Derived.Test.YtndiphnadeeofaaFollow
import Derived.Test.YtndiphnadeeofaaStrings
import Derived.Test.YtndiphnadeeofaaMem
namespace Go.Proofs.Ytndiphnadeeofaa
open Go.RowKit
set_option linter.unusedVariables false

theorem stC_one (x : ByteArray) : ∀ u ∈ stC x, u.oneCell' = true := by intro u hu; simp at hu; subst hu; rfl
/-- The names at a host. -/
def namesL (xs : List Hd) (host : ByteArray) : List ByteArray := (xs.filter fun x => x.2.toList == host.toList).map (·.1)
theorem namesL_le (xs : List Hd) (host : ByteArray) : (namesL xs host).length ≤ xs.length := by unfold namesL; rw [List.length_map]; exact List.length_filter_le _ _
theorem names_next {xs : List Hd} {k : Nat} {a b host : ByteArray} (h : xs[k]? = some (a, b)) : namesL (xs.take (k + 1)) host = namesL (xs.take k) host ++ (if (b.toList == host.toList) = true then [a] else []) := by
  unfold namesL
  rw [List.take_add_one, h, List.filter_append, List.map_append]
  congr 1
  simp only [Option.toList_some, List.filter_cons, List.filter_nil]
  split <;> rfl
theorem names_yes {xs : List Hd} {k : Nat} {a b host : ByteArray} (h : xs[k]? = some (a, b)) (e : (b.toList == host.toList) = true) : sts (namesL (xs.take (k + 1)) host) = sts (namesL (xs.take k) host) ++ [.string a] ∧ (namesL (xs.take (k + 1)) host).length = (namesL (xs.take k) host).length + 1 := by
  rw [names_next h, if_pos e]; simp [flat]
theorem names_no {xs : List Hd} {k : Nat} {a b host : ByteArray} (h : xs[k]? = some (a, b)) (e : (b.toList == host.toList) = false) : namesL (xs.take (k + 1)) host = namesL (xs.take k) host := by
  rw [names_next h, e]; simp
@[irreducible] def namesV (xs : List Hd) (host : ByteArray) : List ByteArray := if folV xs = true then namesL xs host else []
theorem namesV_no {xs : List Hd} {host : ByteArray} (h : folV xs = false) : namesV xs host = [] := by unfold namesV; rw [h]; rfl
theorem namesV_yes {xs : List Hd} {host : ByteArray} (h : folV xs = true) : namesV xs host = namesL xs host := by unfold namesV; rw [if_pos h]
theorem folV_len {xs : List Hd} (h : folV xs = true) : xs.length ≤ 10 := by unfold folV at h; simp at h; exact h.1
theorem namesI_any (A : Option Addr) (n c : Nat) (xs : List Hd) (host : ByteArray) (w : World) (h : Sl w A n c 2 (hds xs)) (hok : hdOk xs) :
    Calls Try.prog 24 #[.slice A n c, .string host] w fun e w' => ∃ B k d, e = .returned (.slice B k d) ∧ w'.ownsRow w.heap.size 9 1 (.slice B k d) k (sts (namesV xs host)) ∧ Below w.heap.size w w' := by
  have hlx : xs.length = n := h.count hdC_len (by omega)
  have hmx := h.max
  have hcx := h.cap
  unfold maxLen at hmx
  cases hv : folV xs with
  | false =>
    have R := hid (namesV_no (host := host) hv)
    have C := fun W (hW : Sl W A n c 2 (hds xs)) => folI_any A n c xs W hW hok
    rw [hv] at C
    clear hv hok hlx
    go_enter Try.func24, Try.ntmps24
    go_wp2_with fail
    refine (C _ h).mono ?_
    rintro e w1 ⟨rfl, x1⟩
    go_wp2
    go_ret
    exact ⟨_, _, _, rfl, by rw [R.out]; exact World.ownsRow_nil _ _ _ _, x1.below⟩
  | true =>
    have hn := folV_len hv
    rw [hlx] at hn
    have R := hid (namesV_yes (host := host) hv)
    have C := fun W (hW : Sl W A n c 2 (hds xs)) => folI_any A n c xs W hW hok
    rw [hv] at C
    have HL := hid hlx
    clear hv hok hlx
    go_enter Try.func24, Try.ntmps24
    go_wp2_with fail
    refine (C _ h).mono ?_
    rintro e w1 ⟨rfl, x1⟩
    have b1 := x1.below
    have O1 := World.ownsRow_nil w1 w.heap.size 9 1
    clear C x1
    go_wp2
    go_loopw [5, 13] (fun v i wr => ∃ (k : Nat), k ≤ n ∧ i = .int .i64 k ∧ wr.ownsRow w.heap.size 9 1 v (namesL (xs.take k) host).length (sts (namesL (xs.take k) host)) ∧ Below w.heap.size w wr) (fun _ i _ => n - (intOf i).toNat)
    case atStart => exact ⟨0, Nat.zero_le _, rfl, O1, b1⟩
    case round =>
      obtain ⟨k, hk, rfl, hown, hb⟩ := hrel
      by_cases hlt : k < n
      · obtain ⟨ad, a, b, rfl, hab, c0, c1⟩ := (h.below hb).hd hlt
        have hml := namesL_le (xs.take k) host
        have hml2 : (xs.take k).length ≤ 10 := by rw [List.length_take]; omega
        cases he : (b.toList == host.toList) with
        | false =>
          have N := hid (names_no hab he)
          clear hab
          go_wp2
          go_roundw
          case rel => exact ⟨k + 1, by omega, by go_num, by rw [N.out]; exact hown.alloc _, hb.alloc hb.size _⟩
          case measure => simp [intOf]; omega
        | true =>
          have N := hid (names_yes hab he)
          clear hab
          go_wp2_with (at_builtin; refine wpList_append_see _ rfl (.tmp 21) (.tmp 24) eltString rfl w.heap.size u5 _ _ rfl ((hown.alloc _).alloc _) (some ⟨wr.heap.size + 1, 0, none⟩) 1 1 [.string a] rfl (see_new _ [.string a] _ _ (by simp)) (by simp) rfl (stC_one a) (by unfold maxLen; omega) (by omega) (by have := hb.size; simp; omega) ?_; intro v' w' hown' hg' hat')
          have hb' := ((hb.alloc hb.size _).alloc (Nat.le_trans hb.size (by simp)) _).grown hg' (Nat.le_trans hb.size (by simp; omega)) (fun q hq => (hown.lt q hq).1)
          clear hg' hat' hown c0 c1 he
          go_wp2
          go_roundw
          case rel => exact ⟨k + 1, by omega, by go_num, by rw [N.out.1, N.out.2]; exact hown', hb'⟩
          case measure => simp [intOf]; omega
      · obtain rfl : k = n := by omega
        have hT : xs.take k = xs := List.take_of_length_le (by rw [HL.out]; exact Nat.le_refl _)
        rw [hT] at hown
        obtain ⟨B, d, rfl, _⟩ := own_form hown
        clear hT
        go_wp2
        go_ret
        exact ⟨B, _, d, rfl, by rw [R.out]; exact hown, hb⟩
theorem namesS_any (A : Option Addr) (n c : Nat) (xs : List Hd) (host : ByteArray) (w : World) (h : Sl w A n c 2 (hds xs)) (hok : hdOk xs) :
    Calls Try.prog 29 #[.slice A n c, .string host] w fun e w' => ∃ B k d, e = .returned (.slice B k d) ∧ w'.ownsRow w.heap.size 9 1 (.slice B k d) k (sts (namesV xs host)) ∧ Below w.heap.size w w' := by
  have hlx : xs.length = n := h.count hdC_len (by omega)
  have hmx := h.max
  have hcx := h.cap
  unfold maxLen at hmx
  cases hv : folV xs with
  | false =>
    have R := hid (namesV_no (host := host) hv)
    have C := fun W (hW : Sl W A n c 2 (hds xs)) => folS_any A n c xs W hW hok
    rw [hv] at C
    have O1 := own_empty w 9 1
    have b1 : Below w.heap.size w (w.alloc (.cells #[] 9)) := (Below.refl _ _).alloc (Nat.le_refl _) _
    have H := hid (And.intro O1 b1)
    have h1 := h.alloc (.cells #[] 9)
    clear hv hok hlx O1 b1 h
    go_enter Try.func29, Try.ntmps29
    by_cases hn : 0 < n
    · go_wp2
      refine wp_loop_rounds 1 ?_
      rw [rounds_succ]
      go_wp2_with fail
      refine (C _ h1).mono ?_
      rintro e w1 ⟨rfl, x1⟩
      go_wp2
      go_ret
      exact ⟨_, _, _, rfl, by rw [R.out]; exact own_ext H.out.1 x1, below_next H.out.2 x1.below⟩
    · go_wp2
      refine wp_loop_rounds 1 ?_
      rw [rounds_succ]
      go_wp2
      go_ret
      exact ⟨_, _, _, rfl, by rw [R.out]; exact H.out.1, H.out.2⟩
  | true =>
    have hn := folV_len hv
    rw [hlx] at hn
    have R := hid (namesV_yes (host := host) hv)
    have C := fun W (hW : Sl W A n c 2 (hds xs)) => folS_any A n c xs W hW hok
    rw [hv] at C
    have HL := hid hlx
    have O1 := own_empty w 9 1
    have b1 : Below w.heap.size w (w.alloc (.cells #[] 9)) := (Below.refl _ _).alloc (Nat.le_refl _) _
    clear hv hok hlx
    go_enter Try.func29, Try.ntmps29
    go_wp2
    go_loopw [5, 6] (fun v i wr => ∃ (k : Nat), k ≤ n ∧ i = .int .i64 k ∧ wr.ownsRow w.heap.size 9 1 v (namesL (xs.take k) host).length (sts (namesL (xs.take k) host)) ∧ Below w.heap.size w wr) (fun _ i _ => n - (intOf i).toNat)
    case atStart => exact ⟨0, Nat.zero_le _, rfl, O1, b1⟩
    case round =>
      obtain ⟨k, hk, rfl, hown0, hb0⟩ := hrel
      by_cases hlt : k < n
      · go_wp2_with fail
        refine (C _ (h.below hb0)).mono ?_
        rintro e w2 ⟨rfl, x2⟩
        have hown := own_ext hown0 x2
        have hb := below_next hb0 x2.below
        clear hown0 hb0 x2 C
        obtain ⟨ad, a, b, rfl, hab, c0, c1⟩ := (h.below hb).hd hlt
        have hml := namesL_le (xs.take k) host
        have hml2 : (xs.take k).length ≤ 10 := by rw [List.length_take]; omega
        cases he : (b.toList == host.toList) with
        | false =>
          have N := hid (names_no hab he)
          clear hab
          go_wp2
          go_roundw
          case rel => exact ⟨k + 1, by omega, by go_num, by rw [N.out]; exact hown, hb⟩
          case measure => simp [intOf]; omega
        | true =>
          have N := hid (names_yes hab he)
          clear hab
          go_wp2_with (at_builtin; refine wpList_append_see _ rfl (.tmp 25) (.tmp 31) eltString rfl w.heap.size u5 _ _ rfl (hown.alloc _) (some ⟨w2.heap.size, 0, none⟩) 1 1 [.string a] rfl (see_new _ [.string a] _ _ rfl) (by simp) rfl (stC_one a) (by unfold maxLen; omega) (by omega) (by have := hb.size; simp; omega) ?_; intro v' w' hown' hg' hat')
          have hb' := (hb.alloc hb.size _).grown hg' (Nat.le_trans hb.size (by simp)) (fun q hq => (hown.lt q hq).1)
          clear hg' hat' hown c0 c1 he
          go_wp2
          go_roundw
          case rel => exact ⟨k + 1, by omega, by go_num, by rw [N.out.1, N.out.2]; exact hown', hb'⟩
          case measure => simp [intOf]; omega
      · obtain rfl : k = n := by omega
        have hT : xs.take k = xs := List.take_of_length_le (by rw [HL.out]; exact Nat.le_refl _)
        rw [hT] at hown0
        obtain ⟨B, d, rfl, _⟩ := own_form hown0
        clear hT
        go_wp2
        go_ret
        exact ⟨B, _, d, rfl, by rw [R.out]; exact hown0, hb0⟩
/-! ### Hosts -/
@[irreducible] def hostAt (xs : List Hd) (k : Nat) : Bool := decide (k = 0) || !((xs.getD (k - 1) default).2.toList == (xs.getD k default).2.toList)
def hostsTo (xs : List Hd) (k : Nat) : List ByteArray := ((List.range k).filter (hostAt xs)).map fun j => (xs.getD j default).2
theorem hosts_next (xs : List Hd) (k : Nat) : hostsTo xs (k + 1) = hostsTo xs k ++ (if hostAt xs k = true then [(xs.getD k default).2] else []) := by
  unfold hostsTo
  rw [List.range_succ, List.filter_append, List.map_append]
  congr 1
  simp only [List.filter_cons, List.filter_nil]
  split <;> rfl
theorem hostsTo_le (xs : List Hd) (k : Nat) : (hostsTo xs k).length ≤ k := by
  unfold hostsTo; rw [List.length_map]; have := List.length_filter_le (hostAt xs) (List.range k); rwa [List.length_range] at this
theorem hosts_yes {xs : List Hd} {k : Nat} {a b : ByteArray} (h : xs[k]? = some (a, b)) (e : hostAt xs k = true) : sts (hostsTo xs (k + 1)) = sts (hostsTo xs k) ++ [.string b] ∧ (hostsTo xs (k + 1)).length = (hostsTo xs k).length + 1 := by
  rw [hosts_next, if_pos e, getD_of h]; simp [flat]
theorem hosts_no {xs : List Hd} {k : Nat} (e : hostAt xs k = false) : hostsTo xs (k + 1) = hostsTo xs k := by rw [hosts_next, e]; simp
theorem hostAt_0 (xs : List Hd) : hostAt xs 0 = true := by unfold hostAt; rfl
theorem hostAt_s {xs : List Hd} {k : Nat} {a b a' b' : ByteArray} (h : xs[k]? = some (a, b)) (h' : xs[k - 1]? = some (a', b')) (hk : 0 < k) : hostAt xs k = !(b'.toList == b.toList) := by
  unfold hostAt; rw [getD_of h, getD_of h']; simp; omega
@[irreducible] def hostsV (xs : List Hd) : List ByteArray := if folV xs = true then hostsTo xs xs.length else []
theorem hostsV_no {xs : List Hd} (h : folV xs = false) : hostsV xs = [] := by unfold hostsV; rw [h]; rfl
theorem hostsV_yes {xs : List Hd} (h : folV xs = true) : hostsV xs = hostsTo xs xs.length := by unfold hostsV; rw [if_pos h]
set_option maxHeartbeats 1000000 in
theorem hostsI_any (A : Option Addr) (n c : Nat) (xs : List Hd) (w : World) (h : Sl w A n c 2 (hds xs)) (hok : hdOk xs) :
    Calls Try.prog 21 #[.slice A n c] w fun e w' => ∃ B k d, e = .returned (.slice B k d) ∧ w'.ownsRow w.heap.size 9 1 (.slice B k d) k (sts (hostsV xs)) ∧ Below w.heap.size w w' := by
  have hlx : xs.length = n := h.count hdC_len (by omega)
  have hmx := h.max
  have hcx := h.cap
  unfold maxLen at hmx
  cases hv : folV xs with
  | false =>
    have R := hid (hostsV_no hv)
    have C := fun W (hW : Sl W A n c 2 (hds xs)) => folI_any A n c xs W hW hok
    rw [hv] at C
    clear hv hok hlx
    go_enter Try.func21, Try.ntmps21
    go_wp2_with fail
    refine (C _ h).mono ?_
    rintro e w1 ⟨rfl, x1⟩
    go_wp2
    go_ret
    exact ⟨_, _, _, rfl, by rw [R.out]; exact World.ownsRow_nil _ _ _ _, x1.below⟩
  | true =>
    have hn := folV_len hv
    rw [hlx] at hn
    have R := hid (hostsV_yes hv)
    rw [hlx] at R
    have C := fun W (hW : Sl W A n c 2 (hds xs)) => folI_any A n c xs W hW hok
    rw [hv] at C
    clear hv hok hlx
    go_enter Try.func21, Try.ntmps21
    go_wp2_with fail
    refine (C _ h).mono ?_
    rintro e w1 ⟨rfl, x1⟩
    have b1 := x1.below
    have O1 := World.ownsRow_nil w1 w.heap.size 9 1
    clear C x1
    go_wp2
    go_loopw [3, 11] (fun v i wr => ∃ (k : Nat), k ≤ n ∧ i = .int .i64 k ∧ wr.ownsRow w.heap.size 9 1 v (hostsTo xs k).length (sts (hostsTo xs k)) ∧ Below w.heap.size w wr) (fun _ i _ => n - (intOf i).toNat)
    case atStart => exact ⟨0, Nat.zero_le _, rfl, O1, b1⟩
    case round =>
      obtain ⟨k, hk, rfl, hown0, hb0⟩ := hrel
      by_cases hlt : k < n
      · have hown := hown0
        have hb := hb0
        clear hown0 hb0
        obtain ⟨ad, a, b, rfl, hab, c0, c1⟩ := (h.below hb).hd hlt
        have hml := hostsTo_le xs k
        by_cases hk0 : k = 0
        · have N := hid (hosts_yes hab (by rw [hk0]; exact hostAt_0 xs))
          have t0 : ((k : Int) == 0) = true := by simp [hk0]
          have HK := hid hk0
          clear hab hk0
          go_wp2
          generalize hW : wr.alloc (Obj.cells #[Value.string a, Value.string b] 33) = W
          have hc : W.heap[wr.heap.size]? = some (.cells #[Value.string a, Value.string b] 33 (0, 0)) := by rw [← hW]; exact alloc_new' rfl
          have d0 : W.cell? ⟨wr.heap.size, 0, none⟩ = some (.string a) := cell_of_row W wr.heap.size 0 _ _ _ hc
          have d1 : W.cell? ⟨wr.heap.size, 1, none⟩ = some (.string b) := cell_of_row W wr.heap.size 1 _ _ _ hc
          have g1 := more_cell d1
          have hownW : W.ownsRow w.heap.size 9 1 u3 (hostsTo xs k).length (sts (hostsTo xs k)) := by rw [← hW]; exact hown.alloc _
          have hbW : Below w.heap.size w W := by rw [← hW]; exact hb.alloc hb.size _
          clear hc hW c0 c1 hown hb
          refine wp_region_more (by kernel_rfl) (by kernel_rfl) ?_
          repeat (go_big_quiet_step (fail))
          refine wpQuiet_nil ?_
          rintro _ ⟨z, rfl⟩
          have hown1 := own_more hownW z
          have hb1 := below_next hbW (more_below W z)
          have f1 := g1 z
          clear hownW hbW d1 d0
          generalize hV : More W z = V at *
          clear hV
          go_wp2_with (at_builtin; refine wpList_append_see _ rfl (.tmp 29) (.tmp 32) eltString rfl w.heap.size u3 _ _ rfl (hown1.alloc _) (some ⟨V.heap.size, 0, none⟩) 1 1 [.string b] rfl (see_new _ [.string b] _ _ rfl) (by simp) rfl (stC_one b) (by unfold maxLen; omega) (by omega) (by have := hb1.size; simp; omega) ?_; intro v' w' hown' hg' hat')
          have hb' := (hb1.alloc hb1.size _).grown hg' (Nat.le_trans hb1.size (by simp)) (fun q hq => (hown1.lt q hq).1)
          clear hg' hat' hown1 f1 g1
          go_wp2
          go_roundw
          case rel => exact ⟨k + 1, by omega, by go_num, by rw [N.out.1, N.out.2]; exact hown', hb'⟩
          case measure => simp [intOf]; omega
        · have hk1 : 0 < k := by omega
          obtain ⟨ad', a', b', hA, hab', p0, p1⟩ := (h.below hb).hd (j := k - 1) (by omega)
          injection hA with hA
          subst hA
          have hS := hostAt_s hab hab' hk1
          have t0 : ((k : Int) == 0) = false := by simp [hk0]
          cases he : (b'.toList == b.toList) with
          | true =>
            rw [he] at hS
            have N := hid (hosts_no hS)
            clear hab hab' hS hk0
            go_wp2
            generalize hW : wr.alloc (Obj.cells #[Value.string a, Value.string b] 33) = W
            have hc : W.heap[wr.heap.size]? = some (.cells #[Value.string a, Value.string b] 33 (0, 0)) := by rw [← hW]; exact alloc_new' rfl
            have d0 : W.cell? ⟨wr.heap.size, 0, none⟩ = some (.string a) := cell_of_row W wr.heap.size 0 _ _ _ hc
            have d1 : W.cell? ⟨wr.heap.size, 1, none⟩ = some (.string b) := cell_of_row W wr.heap.size 1 _ _ _ hc
            have g1 := more_cell d1
            have e1 := more_cell (show W.cell? _ = _ by rw [← hW]; exact (Ext.of.alloc (Ext.of.refl _) _).cell p1)
            have hownW : W.ownsRow w.heap.size 9 1 u3 (hostsTo xs k).length (sts (hostsTo xs k)) := by rw [← hW]; exact hown.alloc _
            have hbW : Below w.heap.size w W := by rw [← hW]; exact hb.alloc hb.size _
            clear hc hW c0 c1 hown hb p0 p1
            refine wp_region_more (by kernel_rfl) (by kernel_rfl) ?_
            repeat (go_big_quiet_step (fail))
            refine wpQuiet_nil ?_
            rintro _ ⟨z, rfl⟩
            have hown1 := own_more hownW z
            have hb1 := below_next hbW (more_below W z)
            have f1 := g1 z
            clear hownW hbW d1 d0
            generalize hV : More W z = V at *
            clear hV
            go_wp2
            go_roundw
            case rel => exact ⟨k + 1, by omega, by go_num, by rw [N.out]; exact hown1, hb1⟩
            case measure => simp [intOf]; omega
          | false =>
            rw [he] at hS
            have N := hid (hosts_yes hab hS)
            clear hab hab' hS hk0
            go_wp2
            generalize hW : wr.alloc (Obj.cells #[Value.string a, Value.string b] 33) = W
            have hc : W.heap[wr.heap.size]? = some (.cells #[Value.string a, Value.string b] 33 (0, 0)) := by rw [← hW]; exact alloc_new' rfl
            have d0 : W.cell? ⟨wr.heap.size, 0, none⟩ = some (.string a) := cell_of_row W wr.heap.size 0 _ _ _ hc
            have d1 : W.cell? ⟨wr.heap.size, 1, none⟩ = some (.string b) := cell_of_row W wr.heap.size 1 _ _ _ hc
            have g1 := more_cell d1
            have e1 := more_cell (show W.cell? _ = _ by rw [← hW]; exact (Ext.of.alloc (Ext.of.refl _) _).cell p1)
            have hownW : W.ownsRow w.heap.size 9 1 u3 (hostsTo xs k).length (sts (hostsTo xs k)) := by rw [← hW]; exact hown.alloc _
            have hbW : Below w.heap.size w W := by rw [← hW]; exact hb.alloc hb.size _
            clear hc hW c0 c1 hown hb p0 p1
            refine wp_region_more (by kernel_rfl) (by kernel_rfl) ?_
            repeat (go_big_quiet_step (fail))
            refine wpQuiet_nil ?_
            rintro _ ⟨z, rfl⟩
            have hown1 := own_more hownW z
            have hb1 := below_next hbW (more_below W z)
            have f1 := g1 z
            clear hownW hbW d1 d0
            generalize hV : More W z = V at *
            clear hV
            go_wp2_with (at_builtin; refine wpList_append_see _ rfl (.tmp 29) (.tmp 32) eltString rfl w.heap.size u3 _ _ rfl (hown1.alloc _) (some ⟨V.heap.size, 0, none⟩) 1 1 [.string b] rfl (see_new _ [.string b] _ _ rfl) (by simp) rfl (stC_one b) (by unfold maxLen; omega) (by omega) (by have := hb1.size; simp; omega) ?_; intro v' w' hown' hg' hat')
            have hb' := (hb1.alloc hb1.size _).grown hg' (Nat.le_trans hb1.size (by simp)) (fun q hq => (hown1.lt q hq).1)
            clear hg' hat' hown1 f1 g1
            go_wp2
            go_roundw
            case rel => exact ⟨k + 1, by omega, by go_num, by rw [N.out.1, N.out.2]; exact hown', hb'⟩
            case measure => simp [intOf]; omega
      · obtain rfl : k = n := by omega
        obtain ⟨B, d, rfl, _⟩ := own_form hown0
        go_wp2
        go_ret
        exact ⟨B, _, d, rfl, by rw [R.out]; exact hown0, hb0⟩
set_option maxHeartbeats 1000000 in
theorem hostsS_any (A : Option Addr) (n c : Nat) (xs : List Hd) (w : World) (h : Sl w A n c 2 (hds xs)) (hok : hdOk xs) :
    Calls Try.prog 23 #[.slice A n c] w fun e w' => ∃ B k d, e = .returned (.slice B k d) ∧ w'.ownsRow w.heap.size 9 1 (.slice B k d) k (sts (hostsV xs)) ∧ Below w.heap.size w w' := by
  have hlx : xs.length = n := h.count hdC_len (by omega)
  have hmx := h.max
  have hcx := h.cap
  unfold maxLen at hmx
  cases hv : folV xs with
  | false =>
    have R := hid (hostsV_no hv)
    have C := fun W (hW : Sl W A n c 2 (hds xs)) => folS_any A n c xs W hW hok
    rw [hv] at C
    have O1 := own_empty w 9 1
    have b1 : Below w.heap.size w (w.alloc (.cells #[] 9)) := (Below.refl _ _).alloc (Nat.le_refl _) _
    have H := hid (And.intro O1 b1)
    have h1 := h.alloc (.cells #[] 9)
    clear hv hok hlx O1 b1 h
    go_enter Try.func23, Try.ntmps23
    by_cases hn : 0 < n
    · go_wp2
      refine wp_loop_rounds 1 ?_
      rw [rounds_succ]
      go_wp2_with fail
      refine (C _ h1).mono ?_
      rintro e w1 ⟨rfl, x1⟩
      go_wp2
      go_ret
      exact ⟨_, _, _, rfl, by rw [R.out]; exact own_ext H.out.1 x1, below_next H.out.2 x1.below⟩
    · go_wp2
      refine wp_loop_rounds 1 ?_
      rw [rounds_succ]
      go_wp2
      go_ret
      exact ⟨_, _, _, rfl, by rw [R.out]; exact H.out.1, H.out.2⟩
  | true =>
    have hn := folV_len hv
    rw [hlx] at hn
    have R := hid (hostsV_yes hv)
    rw [hlx] at R
    have C := fun W (hW : Sl W A n c 2 (hds xs)) => folS_any A n c xs W hW hok
    rw [hv] at C
    have O1 := own_empty w 9 1
    have b1 : Below w.heap.size w (w.alloc (.cells #[] 9)) := (Below.refl _ _).alloc (Nat.le_refl _) _
    clear hv hok hlx
    go_enter Try.func23, Try.ntmps23
    go_wp2
    go_loopw [3, 4] (fun v i wr => ∃ (k : Nat), k ≤ n ∧ i = .int .i64 k ∧ wr.ownsRow w.heap.size 9 1 v (hostsTo xs k).length (sts (hostsTo xs k)) ∧ Below w.heap.size w wr) (fun _ i _ => n - (intOf i).toNat)
    case atStart => exact ⟨0, Nat.zero_le _, rfl, O1, b1⟩
    case round =>
      obtain ⟨k, hk, rfl, hown0, hb0⟩ := hrel
      by_cases hlt : k < n
      · go_wp2_with fail
        refine (C _ (h.below hb0)).mono ?_
        rintro e w2 ⟨rfl, x2⟩
        have hown := own_ext hown0 x2
        have hb := below_next hb0 x2.below
        clear hown0 hb0 x2 C
        obtain ⟨ad, a, b, rfl, hab, c0, c1⟩ := (h.below hb).hd hlt
        have hml := hostsTo_le xs k
        by_cases hk0 : k = 0
        · have N := hid (hosts_yes hab (by rw [hk0]; exact hostAt_0 xs))
          have t0 : ((k : Int) == 0) = true := by simp [hk0]
          have HK := hid hk0
          clear hab hk0
          generalize hW : w2 = W at *
          have d1 := c1
          have g1 := more_cell c1
          have hownW := hown
          have hbW := hb
          clear hW c0 hown hb
          go_wp2
          refine wp_region_more (by kernel_rfl) (by kernel_rfl) ?_
          repeat (go_big_quiet_step (fail))
          refine wpQuiet_nil ?_
          rintro _ ⟨z, rfl⟩
          have hown1 := own_more hownW z
          have hb1 := below_next hbW (more_below W z)
          have f1 := g1 z
          clear hownW hbW d1 c1
          generalize hV : More W z = V at *
          clear hV
          go_wp2_with (at_builtin; refine wpList_append_see _ rfl (.tmp 32) (.tmp 38) eltString rfl w.heap.size u3 _ _ rfl (hown1.alloc _) (some ⟨V.heap.size, 0, none⟩) 1 1 [.string b] rfl (see_new _ [.string b] _ _ rfl) (by simp) rfl (stC_one b) (by unfold maxLen; omega) (by omega) (by have := hb1.size; simp; omega) ?_; intro v' w' hown' hg' hat')
          have hb' := (hb1.alloc hb1.size _).grown hg' (Nat.le_trans hb1.size (by simp)) (fun q hq => (hown1.lt q hq).1)
          clear hg' hat' hown1 f1 g1
          go_wp2
          go_roundw
          case rel => exact ⟨k + 1, by omega, by go_num, by rw [N.out.1, N.out.2]; exact hown', hb'⟩
          case measure => simp [intOf]; omega
        · have hk1 : 0 < k := by omega
          obtain ⟨ad', a', b', hA, hab', p0, p1⟩ := (h.below hb).hd (j := k - 1) (by omega)
          injection hA with hA
          subst hA
          have hS := hostAt_s hab hab' hk1
          have t0 : ((k : Int) == 0) = false := by simp [hk0]
          cases he : (b'.toList == b.toList) with
          | true =>
            rw [he] at hS
            have he2 : (b.toList == b'.toList) = true := by rw [← he]; exact Bool.beq_comm
            have N := hid (hosts_no hS)
            clear hab hab' hS hk0
            generalize hW : w2 = W at *
            have d1 := c1
            have g1 := more_cell c1
            have e1 := more_cell p1
            have hownW := hown
            have hbW := hb
            clear hW c0 hown hb p0 p1
            go_wp2
            refine wp_region_more (by kernel_rfl) (by kernel_rfl) ?_
            repeat (go_big_quiet_step (fail))
            refine wpQuiet_nil ?_
            rintro _ ⟨z, rfl⟩
            have hown1 := own_more hownW z
            have hb1 := below_next hbW (more_below W z)
            have f1 := g1 z
            clear hownW hbW d1 c1
            generalize hV : More W z = V at *
            clear hV
            go_wp2
            go_roundw
            case rel => exact ⟨k + 1, by omega, by go_num, by rw [N.out]; exact hown1, hb1⟩
            case measure => simp [intOf]; omega
          | false =>
            rw [he] at hS
            have he2 : (b.toList == b'.toList) = false := by rw [← he]; exact Bool.beq_comm
            have N := hid (hosts_yes hab hS)
            clear hab hab' hS hk0
            generalize hW : w2 = W at *
            have d1 := c1
            have g1 := more_cell c1
            have e1 := more_cell p1
            have hownW := hown
            have hbW := hb
            clear hW c0 hown hb p0 p1
            go_wp2
            refine wp_region_more (by kernel_rfl) (by kernel_rfl) ?_
            repeat (go_big_quiet_step (fail))
            refine wpQuiet_nil ?_
            rintro _ ⟨z, rfl⟩
            have hown1 := own_more hownW z
            have hb1 := below_next hbW (more_below W z)
            have f1 := g1 z
            clear hownW hbW d1 c1
            generalize hV : More W z = V at *
            clear hV
            go_wp2_with (at_builtin; refine wpList_append_see _ rfl (.tmp 32) (.tmp 38) eltString rfl w.heap.size u3 _ _ rfl (hown1.alloc _) (some ⟨V.heap.size, 0, none⟩) 1 1 [.string b] rfl (see_new _ [.string b] _ _ rfl) (by simp) rfl (stC_one b) (by unfold maxLen; omega) (by omega) (by have := hb1.size; simp; omega) ?_; intro v' w' hown' hg' hat')
            have hb' := (hb1.alloc hb1.size _).grown hg' (Nat.le_trans hb1.size (by simp)) (fun q hq => (hown1.lt q hq).1)
            clear hg' hat' hown1 f1 g1
            go_wp2
            go_roundw
            case rel => exact ⟨k + 1, by omega, by go_num, by rw [N.out.1, N.out.2]; exact hown', hb'⟩
            case measure => simp [intOf]; omega
      · obtain rfl : k = n := by omega
        obtain ⟨B, d, rfl, _⟩ := own_form hown0
        go_wp2
        go_ret
        exact ⟨B, _, d, rfl, by rw [R.out]; exact hown0, hb0⟩
theorem namesV_len (xs : List Hd) (host : ByteArray) : (namesV xs host).length ≤ 10 := by
  cases h : folV xs with
  | false => rw [namesV_no h]; simp
  | true => rw [namesV_yes h]; exact Nat.le_trans (namesL_le _ _) (folV_len h)
theorem hostsV_len (xs : List Hd) : (hostsV xs).length ≤ 10 := by
  cases h : folV xs with
  | false => rw [hostsV_no h]; simp
  | true => rw [hostsV_yes h]; exact Nat.le_trans (hostsTo_le _ _) (folV_len h)
end Go.Proofs.Ytndiphnadeeofaa
