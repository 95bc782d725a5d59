/- The draw of an inbox and an activity; equal inboxes are the same. -/
import Derived.Test.YtoagpfdhbcgdcaaDoorDrawIb
import Derived.Test.YtoagpfdhbcgdcaaDoorInboxTo
namespace Go.Proofs.YtoagpfdhbcgdcaaDoor
open Go.RowKit
set_option linter.unusedVariables false
set_option linter.unusedSimpArgs false
set_option maxRecDepth 8000
theorem sameInbox_same (A : Option Addr) (n c : Nat) (B : Option Addr) (m d : Nat) (A' : Option Addr) (n' c' : Nat) (B' : Option Addr) (m' d' : Nat) (xs : List Hd) (zs : List Int) (w : World) (h : Sl w A n c 2 (hds xs)) (hz : Sl w B m d 1 (ints zs)) (h' : Sl w A' n' c' 2 (hds xs)) (hz' : Sl w B' m' d' 1 (ints zs)) :
    Calls Tryd.prog 10 #[ibA A n c B m d, ibA A' n' c' B' m' d'] w fun e w' => e = .returned (.bool true) ∧ Ext.of w w' := by
  have hE : Ext.of w ((w.alloc (.cells #[.slice A n c, .slice B m d] 26)).alloc (.cells #[.slice A' n' c', .slice B' m' d'] 26)) := ((Ext.of.refl _).alloc _).alloc _
  have h1 : ((w.alloc (.cells #[.slice A n c, .slice B m d] 26)).alloc (.cells #[.slice A' n' c', .slice B' m' d'] 26)).heap[w.heap.size]? = some (.cells #[.slice A n c, .slice B m d] 26 (0, 0)) := alloc_old (alloc_new' rfl)
  have h2 : ((w.alloc (.cells #[.slice A n c, .slice B m d] 26)).alloc (.cells #[.slice A' n' c', .slice B' m' d'] 26)).heap[w.heap.size + 1]? = some (.cells #[.slice A' n' c', .slice B' m' d'] 26 (0, 0)) := alloc_new' (by simp)
  have c0 := cell_of_row _ w.heap.size 0 _ _ _ h1
  have c1 := cell_of_row _ w.heap.size 1 _ _ _ h1
  have d0 := cell_of_row _ (w.heap.size + 1) 0 _ _ _ h2
  have d1 := cell_of_row _ (w.heap.size + 1) 1 _ _ _ h2
  clear h1 h2
  have t1 : decide (xs = xs) = true := by simp
  have t2 : decide (zs = zs) = true := by simp
  have C1 := fun W A n c (hx : Sl W A n c 2 (hds xs)) A' n' c' (hy : Sl W A' n' c' 2 (hds xs)) => sameHandles_any A A' n c n' c' xs xs W hx hy
  have C2 := fun W A n c (hx : Sl W A n c 1 (ints zs)) A' n' c' (hy : Sl W A' n' c' 1 (ints zs)) => sameInts_any A A' n c n' c' zs zs W hx hy
  rw [t1] at C1
  rw [t2] at C2
  clear t1 t2
  go_enter Tryd.func10, Tryd.ntmps10
  go_wp2_with fail
  refine (C1 _ _ _ _ (h.ext hE) _ _ _ (h'.ext hE)).mono ?_
  rintro e1 w1 ⟨rfl, x1⟩
  have hE := hE.trans x1
  have c1 := x1.cell c1
  have d1 := x1.cell d1
  clear x1 c0 d0
  go_wp2_with fail
  refine (C2 _ _ _ _ (hz.ext hE) _ _ _ (hz'.ext hE)).mono ?_
  rintro e1 w2 ⟨rfl, q, rfl⟩
  go_wp2_with fail
  go_ret
  exact ⟨rfl, hE.drewN q⟩
def TrT (r0 r1 g i : Nat) (a b : World) : Prop := a.grownBy b (some (if i = 3 then r0 else if i = 4 then r1 else g))
/-- A turn of a block that holds no bytes: the reader's bytes lie elsewhere. -/
theorem rd_turn {w w' : World} {r g p : Nat} {cs : Array Value} {T : TypeId} (h : Rd w g p) (G : w.grownBy w' (some r)) (hX : w.heap[r]? = some (.cells cs T (0, 0))) (hn : ∀ (j : Nat) (x : Int), cs[j]? ≠ some (Value.int .u8 x)) (hne : r ≠ g) : Rd w' g p := by
  have hlt := h.lt
  obtain ⟨A, n, c, xs, hg, hs, hx, hn', hA⟩ := h
  have key : bytes xs ≠ [] → ∀ ad, A = some ad → ad.block ≠ r := by
    intro hv ad ha e
    subst ha
    cases xs with
    | nil => exact hv rfl
    | cons x0 xt =>
      obtain ⟨ad', had, hc⟩ := hs.see.ad (k := 0) (by simp)
      cases had
      have h0 := hc 0 (.int .u8 x0) rfl
      rw [addr_zero] at h0
      unfold World.cell? at h0
      rw [e, hX] at h0
      revert h0
      cases ad.spot with
      | some _ => intro h0; simp at h0
      | none => intro h0; exact hn _ _ h0
  exact ⟨A, n, c, xs, (G.block g hlt (fun e => hne (Option.some.inj e).symm)).trans hg, hs.grown G (fun hv ad ha e => key hv ad ha (Option.some.inj e)), hx, hn', hA⟩
def AtIb (r : Nat) (w : World) : Prop := ∃ A n c B m d, w.heap[r]? = some (.cells #[.slice A n c, .slice B m d] 26 (0, 0))
theorem AtIb.grown {r : Nat} {w w' : World} (h : AtIb r w) {row : Option Nat} (hg : w.grownBy w' row) (hne : row ≠ some r) : AtIb r w' := by
  obtain ⟨A, n, c, B, m, d, hb⟩ := h
  exact ⟨A, n, c, B, m, d, (hg.block r (Array.getElem?_eq_some_iff.1 hb).1 (fun e => hne e.symm)).trans hb⟩
theorem row_ne3 {i r0 r1 g : Nat} (hi : i ≠ 3) (h1 : r1 ≠ r0) (h2 : g ≠ r0) : (if i = 3 then r0 else if i = 4 then r1 else g) ≠ r0 := by rw [if_neg hi]; split <;> assumption
theorem row_ne4 {i r0 r1 g : Nat} (hi : i ≠ 4) (h1 : r0 ≠ r1) (h2 : g ≠ r1) : (if i = 3 then r0 else if i = 4 then r1 else g) ≠ r1 := by
  by_cases e : i = 3
  · rw [if_pos e]; exact h1
  · rw [if_neg e, if_neg hi]; exact h2
theorem grown_row {w a b : World} {B k : Nat} (h : Below B w a) (G : a.grownBy b (some k)) (hB : B ≤ a.heap.size) (hk : B ≤ k) : Below B w b := h.grown G hB (by rintro _ ⟨rfl⟩; exact hk)
set_option maxHeartbeats 4000000 in
theorem drawTake_any (A : Option Addr) (n c : Nat) (xs : List Int) (w : World) (h : Row .u8 w A n c xs) :
    Calls Tryd.prog 7 #[.slice A n c] w fun e w' => ∃ C n1 c1 D m1 d1 ys zs kd mk a b s, e = .returned (.tuple #[ibA C n1 c1 D m1 d1, acA kd mk a b s]) ∧ w'.ownsRow w.heap.size 28 2 (.slice C n1 c1) n1 (hds ys) ∧ w'.ownsRow w.heap.size 3 1 (.slice D m1 d1) m1 (ints zs) ∧ hdOk ys ∧ n1 ≤ 9 ∧ m1 ≤ 9 ∧ a.size ≤ 200 ∧ b.size ≤ 200 ∧ s.size ≤ 200 ∧ Below w.heap.size w w' := by
  have hr : ((w.alloc (.cells #[.slice none 0 0, .slice none 0 0] 26)).alloc (.cells #[.int .i64 0, .int .i64 0, .string ⟨#[]⟩, .string ⟨#[]⟩, .string ⟨#[]⟩] 30)).heap[w.heap.size]? = some (.cells #[.slice none 0 0, .slice none 0 0] 26 (0, 0)) := alloc_old (alloc_new' rfl)
  have hs : ((w.alloc (.cells #[.slice none 0 0, .slice none 0 0] 26)).alloc (.cells #[.int .i64 0, .int .i64 0, .string ⟨#[]⟩, .string ⟨#[]⟩, .string ⟨#[]⟩] 30)).heap[w.heap.size + 1]? = some (.cells #[.int .i64 0, .int .i64 0, .string ⟨#[]⟩, .string ⟨#[]⟩, .string ⟨#[]⟩] 30 (0, 0)) := alloc_new' (by simp)
  have B0 : Below w.heap.size w ((w.alloc (.cells #[.slice none 0 0, .slice none 0 0] 26)).alloc (.cells #[.int .i64 0, .int .i64 0, .string ⟨#[]⟩, .string ⟨#[]⟩, .string ⟨#[]⟩] 30)) := ((Below.refl _ _).alloc (Nat.le_refl _) _).alloc (by simp) _
  have S := (h.sl.alloc (.cells #[.slice none 0 0, .slice none 0 0] 26)).alloc (.cells #[.int .i64 0, .int .i64 0, .string ⟨#[]⟩, .string ⟨#[]⟩, .string ⟨#[]⟩] 30)
  have hg2 : ((w.alloc (.cells #[.slice none 0 0, .slice none 0 0] 26)).alloc (.cells #[.int .i64 0, .int .i64 0, .string ⟨#[]⟩, .string ⟨#[]⟩, .string ⟨#[]⟩] 30)).heap.size = w.heap.size + 2 := by simp
  go_enter Tryd.func7, Tryd.ntmps7
  go_wp2_with fail
  refine (open_any A n c xs _ S h.byte).mono ?_
  rintro e w1 ⟨rfl, R1, B1⟩
  rw [hg2] at B1 R1
  replace hr := (B1.block _ (by omega)).trans hr
  replace hs := (B1.block _ (by omega)).trans hs
  replace B1 := B0.trans (B1.mono (by omega))
  clear B0 S hg2
  go_wp2_with fail
  refine (inbox_any (w.heap.size + 2) 0 9 _ R1 (by omega) (by omega) (by omega)).mono ?_
  rintro e w2 ⟨v, rfl, ⟨C, n1, c1, D, m1, d1, ys, zs, rfl, o1, o2, hok, hn1, hm1⟩, p2, l0, l1, R2, G2⟩
  have hl := R1.lt
  have HOK := hid hok
  replace hr := (G2.block _ (Array.getElem?_eq_some_iff.1 hr).1 (fun e => by injection e with e; omega)).trans hr
  replace hs := (G2.block _ (Array.getElem?_eq_some_iff.1 hs).1 (fun e => by injection e with e; omega)).trans hs
  have B2 := B1.grown G2 B1.size (by rintro _ ⟨rfl⟩; omega)
  have o1 := (own_lower o1 (show w.heap.size + 3 ≤ w1.heap.size by omega)).alloc (.cells #[.slice C n1 c1, .slice D m1 d1] 26)
  have o2 := (own_lower o2 (show w.heap.size + 3 ≤ w1.heap.size by omega)).alloc (.cells #[.slice C n1 c1, .slice D m1 d1] 26)
  have hx : (w2.alloc (.cells #[.slice C n1 c1, .slice D m1 d1] 26)).heap[w2.heap.size]? = some (.cells #[.slice C n1 c1, .slice D m1 d1] 26 (0, 0)) := alloc_new' rfl
  have B3 := B2.alloc B2.size (.cells #[.slice C n1 c1, .slice D m1 d1] 26)
  have hr3 := alloc_old (o := .cells #[.slice C n1 c1, .slice D m1 d1] 26) hr
  have hs3 := alloc_old (o := .cells #[.slice C n1 c1, .slice D m1 d1] 26) hs
  have R3 := R2.alloc (.cells #[.slice C n1 c1, .slice D m1 d1] 26)
  have hgx : w.heap.size + 3 ≤ w2.heap.size := Nat.le_trans (by omega) G2.size
  clear hr hs B1 B2 R1 R2 G2 hok
  go_wp2_with fail
  generalize w2.alloc (.cells #[.slice C n1 c1, .slice D m1 d1] 26) = V at *
  generalize w2.heap.size = q at *
  refine wp_region_env (W := fun kk w' => (∃ p', p' ≤ 4400 + 600 * kk ∧ Rd w' (w.heap.size + 2) p') ∧ AtIb w.heap.size w' ∧ AcAt (w.heap.size + 1) w' ∧ w'.heap[q]? = some (.cells #[.slice C n1 c1, .slice D m1 d1] 26 (0, 0)) ∧ w'.ownsRow (w.heap.size + 3) 28 2 (.slice C n1 c1) n1 (hds ys) ∧ w'.ownsRow (w.heap.size + 3) 3 1 (.slice D m1 d1) m1 (ints zs) ∧ Below w.heap.size w w') (dead := fun i j => i == 99 && (false)) (Tr := TrT w.heap.size (w.heap.size + 1) (w.heap.size + 2)) (F := fun i env w' => match i with
      | 0 => env 0 = ibA C n1 c1 D m1 d1
      | 1 => env 1 = .pointer (some ⟨w.heap.size + 2, 0, none⟩)
      | 2 => ∃ kd mk a b s, env 2 = acA kd mk a b s ∧ (a.size ≤ 200 ∧ b.size ≤ 200 ∧ s.size ≤ 200)
      | 3 => w'.heap[w.heap.size]? = some (.cells #[.slice C n1 c1, .slice D m1 d1] 26 (0, 0))
      | 4 => AcAt (w.heap.size + 1) w'
      | _ => True) (by kernel_rfl) (by kernel_rfl) (by kernel_rfl) ?_ ?_ ?_ ?_ ?_
  · exact ⟨⟨p2, by omega, R3.drewN 1⟩, ⟨_, _, _, _, _, _, hr3⟩, ⟨_, _, _, _, _, hs3, Nat.zero_le _, Nat.zero_le _, Nat.zero_le _⟩, hx, o1, o2, B3.trans ⟨rfl, rfl, rfl, Nat.le_refl _, fun _ _ => rfl⟩⟩
  · intro j env env' w hj he hF
    match j with
    | 0 => exact (he 0 (.inl rfl)).symm.trans hF
    | 1 => exact (he 1 (.inl rfl)).symm.trans hF
    | 2 => obtain ⟨kd, mk, a, b, s, e, r⟩ := hF; exact ⟨kd, mk, a, b, s, (he 2 (.inl rfl)).symm.trans e, r⟩
      | 3 => exact hF
      | 4 => exact hF
    | _ + 5 => exact hF
  · intro i j kk env a b hi hj hne hdd haa hW hT hF
    by_cases es : i = 99
    · subst es
      exact absurd hi (of_decide_eq_false (by kernel_rfl))
    · have hB : a.grownBy b (some (if i = 3 then w.heap.size else if i = 4 then w.heap.size + 1 else w.heap.size + 2)) := hT
      match j with
      | 0 => exact hF
      | 1 => exact hF
      | 2 => exact hF
      | 3 => exact (hB.block _ (Array.getElem?_eq_some_iff.1 hF).1 (fun e => row_ne3 hne (by omega) (by omega) (Option.some.inj e).symm)).trans hF
      | 4 => exact hF.grown hB (fun e => row_ne4 hne (by omega) (by omega) (Option.some.inj e))
      | _ + 5 => exact hF
  · refine ⟨fun kk ρ env u hk hc hf hg ht hW hd => ?_, ?_⟩
    · have p0 : ρ (.tmp 5) = .pointer (some ⟨q, 0, none⟩) := (ht 5).trans (by kernel_rfl)
      have hk5 : kk < 5 := hk; obtain ⟨⟨p', hp, hR⟩, hr, hs, hx, o1, o2, hB⟩ := hW
      have x0 := cell_of_row u q 0 _ _ _ hx
      have x1 := cell_of_row u q 1 _ _ _ hx
      exact yield_value (w' := u) (ibA C n1 c1 D m1 d1) (by simp [go_sem, hc, hf, p0, x0, x1]) ⟨upd_same _ _ _, ⟨⟨p', by omega, hR⟩, hr, hs, hx, o1, o2, hB⟩, World.grownBy.refl _ _⟩
    refine ⟨fun kk ρ env u hk hc hf hg ht hW hd => ?_, ?_⟩
    · have p0 : ρ (.tmp 4) = .pointer (some ⟨w.heap.size + 2, 0, none⟩) := (ht 4).trans (by kernel_rfl)
      have hk5 : kk < 5 := hk; obtain ⟨⟨p', hp, hR⟩, hr, hs, hx, o1, o2, hB⟩ := hW
      exact yield_move _ rfl ⟨(upd_same _ _ _).trans p0, ⟨⟨p', by omega, hR⟩, hr, hs, hx, o1, o2, hB⟩, World.grownBy.refl _ _⟩
    refine ⟨fun kk ρ env u hk hc hf hg ht hW hd => ?_, ?_⟩
    · have hk5 : kk < 5 := hk; obtain ⟨⟨p', hp, hR⟩, hr, hs, hx, o1, o2, hB⟩ := hW
      have e1 : ρ (.tmp 11) = env 1 := (ht 11).trans (by kernel_rfl)
      have q1 : env 1 = .pointer (some ⟨w.heap.size + 2, 0, none⟩) := hd.1 rfl
      rw [q1] at e1
      refine yield_call 29 #[.pointer (some ⟨w.heap.size + 2, 0, none⟩), .int .i64 9] (by simp [go_sem, hc, hf, e1]) ?_
      refine (activity_any _ p' 9 u hR (by omega) (by omega) (by omega)).mono ?_
      rintro e' w' ⟨kd, mk, a, b, s, rfl, ha, hb, hs', p3, l0, l1, R4, G4⟩
      exact ⟨_, rfl, ⟨kd, mk, a, b, s, upd_same _ _ _, ha, hb, hs'⟩, ⟨⟨p3, by omega, R4⟩, hr.grown G4 (fun e => by injection e with e; omega), hs.grown G4 (fun e => by injection e with e; omega), (G4.block _ (Array.getElem?_eq_some_iff.1 hx).1 (fun e => by injection e with e; omega)).trans hx, o1.kept G4 (.inr (fun e => by have := (o1.lt _ e).1; omega)), o2.kept G4 (.inr (fun e => by have := (o2.lt _ e).1; omega)), hB.grown G4 hB.size (by rintro _ ⟨rfl⟩; omega)⟩, G4⟩
    refine ⟨fun kk ρ env u hk hc hf hg ht hW hd => ?_, ?_⟩
    · have hk5 : kk < 5 := hk; obtain ⟨⟨p', hp, hR⟩, hr, hs, hx, o1, o2, hB⟩ := hW
      have e0 : ρ (.tmp 10) = env 0 := (ht 10).trans (by kernel_rfl)
      have q0 : env 0 = ibA C n1 c1 D m1 d1 := hd.1 rfl
      rw [q0] at e0
      have p0 : ρ (.tmp 2) = .pointer (some ⟨w.heap.size, 0, none⟩) := (ht 2).trans (by kernel_rfl)
      obtain ⟨z0, z1, z2, z3, z4, z5, hb⟩ := hr
      have f0 := frozen_of_row u w.heap.size 0 _ _ hb
      have f1 := frozen_of_row u w.heap.size 1 _ _ hb
      have y0 := cell_of_row u w.heap.size 0 _ _ _ hb
      have y1 := cell_of_row u w.heap.size 1 _ _ _ hb
      have G4 : u.grownBy ((u.setCell ⟨w.heap.size, 0, none⟩ (.slice C n1 c1)).setCell ⟨w.heap.size, 1, none⟩ (.slice D m1 d1)) (some w.heap.size) := StIb.grown
      unfold Yield
      simp [go_sem, hc, hf, p0, e0, f0, f1, y0, y1]
      exact ⟨set_ib1 (set_ib0 hb), ⟨⟨p', by omega, rd_turn hR G4 hb (by intro j x; match j with | 0 => simp | 1 => simp | _ + 2 => simp) (by omega)⟩, ⟨_, _, _, _, _, _, set_ib1 (set_ib0 hb)⟩, hs.grown G4 (fun e => by injection e with e; omega), (G4.block _ (Array.getElem?_eq_some_iff.1 hx).1 (fun e => by injection e with e; omega)).trans hx, o1.kept G4 (.inr (fun e => by have := (o1.lt _ e).1; omega)), o2.kept G4 (.inr (fun e => by have := (o2.lt _ e).1; omega)), hB.grown G4 hB.size (by rintro _ ⟨rfl⟩; omega)⟩, G4⟩
    refine ⟨fun kk ρ env u hk hc hf hg ht hW hd => ?_, ?_⟩
    · have hk5 : kk < 5 := hk; obtain ⟨⟨p', hp, hR⟩, hr, hs, hx, o1, o2, hB⟩ := hW
      have e2 : ρ (.tmp 12) = env 2 := (ht 12).trans (by kernel_rfl)
      obtain ⟨kd, mk, a, b, s, q2, ha, hb, hc'⟩ : ∃ kd mk a b s, env 2 = acA kd mk a b s ∧ (a.size ≤ 200 ∧ b.size ≤ 200 ∧ s.size ≤ 200) := hd.1 rfl
      rw [q2] at e2
      have p0 : ρ (.tmp 3) = .pointer (some ⟨w.heap.size + 1, 0, none⟩) := (ht 3).trans (by kernel_rfl)
      obtain ⟨k0, m0, a0, b0, s0, hb5, _⟩ := hs
      have f0 := frozen_of_row u (w.heap.size + 1) 0 _ _ hb5
      have f1 := frozen_of_row u (w.heap.size + 1) 1 _ _ hb5
      have f2 := frozen_of_row u (w.heap.size + 1) 2 _ _ hb5
      have f3 := frozen_of_row u (w.heap.size + 1) 3 _ _ hb5
      have f4 := frozen_of_row u (w.heap.size + 1) 4 _ _ hb5
      have y0 := cell_of_row u (w.heap.size + 1) 0 _ _ _ hb5
      have y1 := cell_of_row u (w.heap.size + 1) 1 _ _ _ hb5
      have y2 := cell_of_row u (w.heap.size + 1) 2 _ _ _ hb5
      have y3 := cell_of_row u (w.heap.size + 1) 3 _ _ _ hb5
      have y4 := cell_of_row u (w.heap.size + 1) 4 _ _ _ hb5
      have G4 := row5 (a := .int .i64 kd) (b := .int .i64 mk) (c := .string a) (d := .string b) (e := .string s) hb5
      obtain ⟨N5, G4⟩ := G4
      unfold Yield
      simp [go_sem, hc, hf, p0, e2, f0, f1, f2, f3, f4, y0, y1, y2, y3, y4]
      exact ⟨⟨kd, mk, a, b, s, N5, ha, hb, hc'⟩, ⟨⟨p', by omega, rd_turn hR G4 hb5 (by intro j x; match j with | 0 => simp | 1 => simp | 2 => simp | 3 => simp | 4 => simp | _ + 5 => simp) (by omega)⟩, hr.grown G4 (fun e => by injection e with e; omega), ⟨kd, mk, a, b, s, N5, ha, hb, hc'⟩, (G4.block _ (Array.getElem?_eq_some_iff.1 hx).1 (fun e => by injection e with e; omega)).trans hx, o1.kept G4 (.inr (fun e => by have := (o1.lt _ e).1; omega)), o2.kept G4 (.inr (fun e => by have := (o2.lt _ e).1; omega)), hB.grown G4 hB.size (by rintro _ ⟨rfl⟩; omega)⟩, G4⟩
    trivial
  intro env w5 hW hF
  have h3 : w5.heap[w.heap.size]? = some (.cells #[.slice C n1 c1, .slice D m1 d1] 26 (0, 0)) := hF 3 (of_decide_eq_true (by kernel_rfl)) (fun i hi => by match i with | 0 | 1 | 2 | 3 | 4 => rfl | _ + 5 => simp at hi; omega)
  obtain ⟨kd, mk, a, b, s, h4, ha, hb, hc⟩ : AcAt (w.heap.size + 1) w5 := hF 4 (of_decide_eq_true (by kernel_rfl)) (fun i hi => by match i with | 0 | 1 | 2 | 3 | 4 => rfl | _ + 5 => simp at hi; omega)
  obtain ⟨_, _, _, _, o1, o2, B5⟩ := hW
  clear hF hr3 hs3 B3 R3
  have hrng : List.range 13 = [0, 1, 2, 3, 4, 5, 6, 7, 8, 9, 10, 11, 12] := rfl
  unfold after
  simp only [List.size_toArray, List.length_cons, List.length_nil, Nat.reduceAdd, hrng, List.map_cons, List.map_nil]
  simp [idxOf, List.findIdx?, List.findIdx?.go]
  clear hrng
  have u0 := cell_of_row w5 w.heap.size 0 _ _ _ h3
  have u1 := cell_of_row w5 w.heap.size 1 _ _ _ h3
  have v0 := cell_of_row w5 (w.heap.size + 1) 0 _ _ _ h4
  have v1 := cell_of_row w5 (w.heap.size + 1) 1 _ _ _ h4
  have v2 := cell_of_row w5 (w.heap.size + 1) 2 _ _ _ h4
  have v3 := cell_of_row w5 (w.heap.size + 1) 3 _ _ _ h4
  have v4 := cell_of_row w5 (w.heap.size + 1) 4 _ _ _ h4
  go_wp2_with fail
  exact bodyPost_ret (v := .tuple #[ibA C n1 c1 D m1 d1, acA kd mk a b s]) (by simp [results, Tryd.results7, go_sem, u0, u1, v0, v1, v2, v3, v4]) rfl ⟨C, n1, c1, D, m1, d1, ys, zs, kd, mk, a, b, s, rfl, own_lower o1 (by omega), own_lower o2 (by omega), HOK.out, hn1, hm1, ha, hb, hc, B5⟩
end Go.Proofs.YtoagpfdhbcgdcaaDoor
