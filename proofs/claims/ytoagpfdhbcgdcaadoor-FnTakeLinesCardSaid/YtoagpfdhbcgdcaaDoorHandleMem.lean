/- The contracts of the program's lists in new memory: Handle. -/
import Derived.Test.YtoagpfdhbcgdcaaDoorHandles
import Derived.Test.YtoagpfdhbcgdcaaDoorG1
namespace Go.Proofs.YtoagpfdhbcgdcaaDoor
open Go.RowKit
set_option linter.unusedVariables false
theorem hdC_one (x : Hd) : ∀ u ∈ hdC x, u.oneCell' = true := by intro u hu; simp [hdC] at hu; rcases hu with rfl | rfl <;> rfl
theorem copyHandle_any (A : Option Addr) (n c : Nat) (xs : List Hd) (w : World) (h : Sl w A n c 2 (hds xs)) (hn : n ≤ 1048576) :
    Calls Tryd.prog 31 #[.slice A n c] w fun e w' => ∃ B d, e = .returned (.slice B n d) ∧ w'.ownsRow w.heap.size 28 2 (.slice B n d) n (hds xs) ∧ Below w.heap.size w w' := by
  go_enter Tryd.func31, Tryd.ntmps31
  go_wp2_with (at_builtin; refine wpList_append_see _ rfl _ _ eltHandle rfl w.heap.size (.slice none 0 0) 0 [] rfl (World.ownsRow_nil _ _ _ _) A n c (hds xs) rfl h.see (h.of_none (by decide)) h.len (flat_one hdC_one _) (by unfold maxLen; omega) (by omega) (Nat.le_refl _) ?_; intro v1 w1 hown hg hat)
  rw [Nat.zero_add, List.nil_append] at hown
  have hb : Below w.heap.size w w1 := below_of_grown hg (Nat.le_refl _) (by simp [Value.ownBlock])
  obtain ⟨B, d, rfl, _⟩ := own_form hown
  have R := hid (And.intro hown hb)
  clear hown hb hg hat
  go_wp2
  go_ret
  exact ⟨B, d, rfl, R.out⟩
theorem withAtHandle_any (A : Option Addr) (n c k : Nat) (xs : List Hd) (fa : ByteArray) (fb : ByteArray) (w : World) (h : Sl w A n c 2 (hds xs)) (hn : n ≤ 1000000) (hk : k ≤ n) :
    Calls Tryd.prog 75 #[.slice A n c, .int .i64 k, hdA fa fb] w fun e w' => ∃ B d, e = .returned (.slice B (n + 1) d) ∧ w'.ownsRow w.heap.size 28 2 (.slice B (n + 1) d) (n + 1) (hds (xs.take k ++ (fa, fb) :: xs.drop k)) ∧ Below w.heap.size w w' := by
  have hmx := h.max
  have hcx := h.cap
  unfold maxLen at hmx
  have hlx : xs.length = n := h.count hdC_len (by omega)
  have s1 := h.sub0 (m := k) hk
  rw [flat_take hdC_len] at s1
  have s2 := h.cut (k := k) (K := k * 2) hk rfl
  rw [flat_drop hdC_len] at s2
  have h_lt := hid (show hds (xs.drop k) ≠ [] → ∀ ad, (if c = k then A else A.map (fun x => x.add (k * 2))) = some ad → ad.block < w.heap.size from fun hv ad hA => by obtain ⟨ad', h1, h2⟩ := s2.see.lt hv; rw [hA] at h1; injection h1 with h1; subst h1; exact h2)
  have FA := hid (show hds (xs.take k ++ (fa, fb) :: xs.drop k) = hds (xs.take k) ++ hdC (fa, fb) ++ hds (xs.drop k) by simp [flat])
  obtain ⟨cs, hcs, hmk⟩ := make_run eltHandle (n + 1) ((n : Int) + 1) (by omega) (by omega) (by omega)
  have HCS := hid hcs
  clear hlx hcs
  go_enter Tryd.func75, Tryd.ntmps75
  have O0 := own_made (w.alloc (.cells #[Value.string fa, Value.string fb] 28)) cs 28 2 (n + 1) (w.heap.size + 1) (by simp) HCS.out (by unfold maxLen; omega)
  have b0 : Below w.heap.size w ((w.alloc (.cells #[Value.string fa, Value.string fb] 28)).alloc (.cells cs 28)) := ((Below.refl _ _).alloc (Nat.le_refl _) _).alloc (by simp) _
  have s1 := s1.below b0
  have s2 := s2.below b0
  have c0 : ((w.alloc (.cells #[Value.string fa, Value.string fb] 28)).alloc (.cells cs 28)).cell? ⟨w.heap.size, 0, none⟩ = some (Value.string fa) := cell_of_row _ w.heap.size 0 _ _ _ ((Below.heap_alloc _ _ _ (by simp)).trans (alloc_new' rfl))
  have c1 : ((w.alloc (.cells #[Value.string fa, Value.string fb] 28)).alloc (.cells cs 28)).cell? ⟨w.heap.size, 1, none⟩ = some (Value.string fb) := cell_of_row _ w.heap.size 1 _ _ _ ((Below.heap_alloc _ _ _ (by simp)).trans (alloc_new' rfl))
  have F0 := hid (And.intro s2 (And.intro b0 (And.intro O0 (And.intro c0 c1))))
  clear O0 b0 s2 c0 c1 h
  go_wp2_with (first
    | (at_builtin; refine wpList_append_see _ rfl (.tmp 12) (.tmp 15) eltHandle rfl (w.heap.size + 1) (.slice (some ⟨w.heap.size + 1, 0, none⟩) 0 (n + 1)) 0 [] rfl F0.out.2.2.1 A k c (hds (xs.take k)) rfl s1.see (s1.of_none (by decide)) s1.len (flat_one hdC_one _) (by unfold maxLen; omega) (by omega) (by simp) ?_
       intro v1 w1 O1 g1 a1
       rw [Nat.zero_add, List.nil_append] at O1
       obtain ⟨s2, b0, O0, c0, c1⟩ := F0.out
       have b1 := b0.grown g1 b0.size (by rintro q hq; simp [Value.ownBlock] at hq; omega)
       have s2 := s2.grown g1 (by intro hv ad hA e; have h1 := (h_lt.out hv ad hA); simp [Value.ownBlock] at e; omega)
       have c0 := g1.cell c0 (by simp [Value.ownBlock])
       have c1 := g1.cell c1 (by simp [Value.ownBlock])
       have b1lt := hid (show w.heap.size + 1 ≤ w1.heap.size from Nat.le_trans (by simp) g1.size)
       clear b0 O0 g1 a1 F0 s1)
    | (at_builtin; refine wpList_append_see _ rfl (.tmp 17) (.tmp 19) eltHandle rfl (w.heap.size + 1) v1 _ _ rfl (O1.alloc _) (some ⟨w1.heap.size, 0, none⟩) 1 1 (hdC (fa, fb)) rfl (see_new _ (hdC (fa, fb)) _ _ rfl) (by simp) rfl (hdC_one _) (by unfold maxLen; omega) (by omega) (Nat.le_trans b1lt.out (by simp)) ?_
       intro v2 w2 O2 g2 a2
       have b2 := (b1.alloc b1.size _).grown g2 (Nat.le_trans b1.size (by simp)) (fun q hq => by have := (O1.lt q hq).1; omega)
       have s2 := (s2.alloc _).grown g2 (by intro hv ad hA e; have h1 := (h_lt.out hv ad hA); have h3 := (O1.lt _ e.symm).1; omega)
       have b2lt := hid (show w.heap.size + 1 ≤ w2.heap.size from Nat.le_trans b1lt.out (Nat.le_trans (by simp) g2.size))
       clear b1 O1 g2 a2)
    | (at_builtin; refine wpList_append_see _ rfl (.tmp 21) (.tmp 24) eltHandle rfl (w.heap.size + 1) v2 _ _ rfl O2 _ _ _ (hds (xs.drop k)) rfl s2.see (s2.of_none (by decide)) s2.len (flat_one hdC_one _) (by unfold maxLen; omega) (by omega) b2lt.out ?_
       intro v3 w3 O3 g3 a3
       have b3 := b2.grown g3 b2.size (fun q hq => by have := (O2.lt q hq).1; omega)
       rw [← FA.out, show k + 1 + (n - k) = n + 1 by omega] at O3
       have O3 := own_lower O3 (Nat.le_succ _)
       obtain ⟨B, d, rfl, _⟩ := own_form O3
       clear g3 a3 s2 O2 b2))
  all_goals
    go_ret
    exact ⟨B, d, rfl, O3, b3⟩
set_option maxHeartbeats 1000000 in
theorem withoutAtHandle_any (A : Option Addr) (n c k : Nat) (xs : List Hd) (w : World) (h : Sl w A n c 2 (hds xs)) (hn : n ≤ 1000000) (hk : k < n) :
    Calls Tryd.prog 77 #[.slice A n c, .int .i64 k] w fun e w' => ∃ B d, e = .returned (.slice B (n - 1) d) ∧ w'.ownsRow w.heap.size 28 2 (.slice B (n - 1) d) (n - 1) (hds (xs.take k ++ xs.drop (k + 1))) ∧ Below w.heap.size w w' := by
  have hmx := h.max
  have hcx := h.cap
  unfold maxLen at hmx
  have hlx : xs.length = n := h.count hdC_len (by omega)
  have s1 := h.sub0 (m := k) (by omega)
  rw [flat_take hdC_len] at s1
  have s2 := h.cut (k := k + 1) (K := (k + 1) * 2) (by omega) rfl
  rw [flat_drop hdC_len] at s2
  have FA := hid (show hds (xs.take k ++ xs.drop (k + 1)) = hds (xs.take k) ++ hds (xs.drop (k + 1)) by simp [flat])
  obtain ⟨cs, hcs, hmk⟩ := make_run eltHandle n (n : Int) rfl (by omega) (by omega)
  have O0 := own_made w cs 28 2 n w.heap.size rfl hcs (by unfold maxLen; omega)
  have b0 : Below w.heap.size w (w.alloc (.cells cs 28)) := (Below.refl _ _).alloc (Nat.le_refl _) _
  have h_lt := hid (show hds (xs.drop (k + 1)) ≠ [] → ∀ ad, (if c = k + 1 then A else A.map (fun x => x.add ((k + 1) * 2))) = some ad → ad.block < w.heap.size from fun hv ad hA => by obtain ⟨ad', h1, h2⟩ := s2.see.lt hv; rw [hA] at h1; injection h1 with h1; subst h1; exact h2)
  have s1 := s1.below b0
  have s2 := s2.below b0
  have F0 := hid (And.intro s2 (And.intro b0 O0))
  clear O0 b0 s2 h hlx hcs
  go_enter Tryd.func77, Tryd.ntmps77
  go_wp2_with (first
    | (at_builtin; refine wpList_append_see _ rfl (.tmp 9) (.tmp 12) eltHandle rfl w.heap.size (.slice (some ⟨w.heap.size, 0, none⟩) 0 n) 0 [] rfl F0.out.2.2 A k c (hds (xs.take k)) rfl s1.see (s1.of_none (by decide)) s1.len (flat_one hdC_one _) (by unfold maxLen; omega) (by omega) (by simp) ?_
       intro v1 w1 O1 g1 a1
       rw [Nat.zero_add, List.nil_append] at O1
       obtain ⟨s2, b0, O0⟩ := F0.out
       have b1 := b0.grown g1 b0.size (by rintro q hq; simp [Value.ownBlock] at hq; omega)
       have s2 := s2.grown g1 (by intro hv ad hA e; have h1 := (h_lt.out hv ad hA); simp [Value.ownBlock] at e; omega)
       have b1lt := hid b1.size
       clear b0 O0 g1 a1 F0 s1)
    | (at_builtin; refine wpList_append_see _ rfl (.tmp 14) (.tmp 18) eltHandle rfl w.heap.size v1 _ _ rfl O1 _ _ _ (hds (xs.drop (k + 1))) rfl s2.see (s2.of_none (by decide)) s2.len (flat_one hdC_one _) (by unfold maxLen; omega) (by omega) b1lt.out ?_
       intro v3 w3 O3 g3 a3
       have b3 := b1.grown g3 b1.size (fun q hq => (O1.lt q hq).1)
       rw [← FA.out, show k + (n - (k + 1)) = n - 1 by omega] at O3
       obtain ⟨B, d, rfl, _⟩ := own_form O3
       clear g3 a3 s2 O1 b1))
  all_goals
    go_ret
    exact ⟨B, d, rfl, O3, b3⟩
end Go.Proofs.YtoagpfdhbcgdcaaDoor
