/- The walk of FnDeliveriesValid: it returns true and turns nothing that was there. -/
import Derived.Test.YtbnoonaefcogdaaDrawDel
namespace Go.Proofs.Ytbnoonaefcogdaa.fnDeliveriesValid
open Go.RowKit
set_option linter.unusedVariables false
set_option linter.unusedSimpArgs false
/-- At an append behind a guard that lets through. -/
theorem wpList_append_on {P : Program} {w : World} {ops : Array Oper} {rest : List Oper} {o : Oper} {a : Act} {Q : Exit → Act → World → Prop} (hgd : Region.wanted o (yielded ops a.tmps) = true) (s x : Operand) {t e : TypeId} {size bytes : Nat} (E : Elt P t e size bytes)
    (ho : o.op = .call { callee := .builtin .append, args := #[s, x], argTypes := #[t, t] })
    (base : Nat) (v : Value) (n : Nat) (xs : List Value) (hs : a.eval s = v) (hown : w.ownsRow base e size v n xs)
    (A : Option Addr) (m c : Nat) (news : List Value) (hx : a.eval x = .slice A m c) (hsee : See w A news) (hA : A = none → m = 0) (hl : news.length = m * size) (h1 : ∀ u ∈ news, u.oneCell' = true)
    (h63 : n + m ≤ maxLen) (hbytes : (n + m) * bytes ≤ 140737488355328) (hbase : base ≤ w.heap.size)
    (h : ∀ v' w', w'.ownsRow base e size v' (n + m) (xs ++ news) → w.grownBy w' v.ownBlock → (v'.ownBlock = v.ownBlock ∨ v'.ownBlock = some w.heap.size) → wpList P ops Q rest (a.put o.dst v') w') : wpList P ops Q (o :: rest) a w :=
  wpList_step fun K hK => by
    rw [if_pos hgd]
    exact wp_append_see w s x E ho base v n xs hs hown A m c news hx hsee hA hl h1 h63 hbytes hbase fun v' w' h2 h3 h4 => hK _ _ (h v' w' h2 h3 h4)
set_option maxHeartbeats 2000000 in
theorem walk (a0 : Option Addr) (len0 cap0 : Nat) (z0 : List Int) (w : World) (w0 : Row .u8 w a0 len0 cap0 z0) :
    Calls Try.prog 3 #[.slice a0 len0 cap0] w fun e w' => e = .returned (.bool true) ∧ Below w.heap.size w w' := by
  have hmax := w0.sl.max
  have hcap := w0.sl.cap
  unfold maxLen at hmax
  by_cases hn : 1048576 < len0
  · go_enter Try.func3, Try.ntmps3
    go_wp2
    go_ret
    exact ⟨rfl, Below.refl _ _⟩
  · go_enter Try.func3, Try.ntmps3
    go_wp2_with fail
    refine (drawDelV_any _ _ _ _ _ w0).mono ?_
    rintro e' w1 ⟨B1, k1, d1, ys, rfl, o1, hok, hk1, T1⟩
    have HOK := hid hok
    clear hok
    clear w0 hmax hcap hn
    have hl1 := own_count o1 dlC_len (by omega)
    have CI := fun A n c W (hW : Sl W A n c 4 (dls ys)) => dlI_any A n c ys W hW HOK.out
    have CS := fun A n c W (hW : Sl W A n c 4 (dls ys)) => dlS_any A n c ys W hW HOK.out
    cases hv : dlV ys with
    | false =>
      rw [hv] at CI CS
      clear hv hl1
      go_wp2_with fail
      refine (CI _ _ _ _ (own_sl o1)).mono ?_
      rintro e' w2 ⟨rfl, x2⟩
      go_wp2_with fail
      refine (CS _ _ _ _ ((own_sl o1).ext x2)).mono ?_
      rintro e' w3 ⟨rfl, x3⟩
      have T3 := below_next (below_next T1 x2.below) x3.below
      clear x2 x3 o1 T1 CI CS
      go_wp2_with (go_at_call 9; refine (alive_any _).mono ?_; rintro e' w' ⟨rfl, rfl⟩)
      go_ret
      exact ⟨rfl, T3⟩
    | true =>
      rw [hv] at CI CS
      have HV := hid hv
      clear hv hl1
      go_wp2_with fail
      refine (CI _ _ _ _ (own_sl o1)).mono ?_
      rintro e' w2 ⟨rfl, x2⟩
      go_wp2_with fail
      refine (CS _ _ _ _ ((own_sl o1).ext x2)).mono ?_
      rintro e' w3 ⟨rfl, x3⟩
      have o3 := own_ext (own_ext o1 x2) x3
      have T3 := below_next (below_next T1 x2.below) x3.below
      clear x2 x3 o1 T1 CI CS
      by_cases hk0 : k1 = 0
      · have t0 : ((k1 : Int) == 0) = true := by simp [hk0]
        clear hk0
        go_wp2_with (go_at_call 9; refine (alive_any _).mono ?_; rintro e' w' ⟨rfl, rfl⟩)
        go_ret
        exact ⟨rfl, T3⟩
      · have t0 : ((k1 : Int) == 0) = false := by simp [hk0]
        have hpos : 0 < k1 := by omega
        have s3 := own_sl o3
        obtain ⟨ad, m, a, t, y, hA, hab, c0, c1, c2, c3⟩ := s3.dl (j := 0) hpos
        have HA := hid hA
        rw [Nat.zero_mul, addr_zero] at c0
        have c1 : w3.cell? ⟨ad.block, ad.off + 1, none⟩ = some (.string a) := by rw [Nat.zero_mul, addr_zero] at c1; exact c1
        have c2 : w3.cell? ⟨ad.block, ad.off + 2, none⟩ = some (.int .i64 t) := by rw [Nat.zero_mul, addr_zero] at c2; exact c2
        have c3 : w3.cell? ⟨ad.block, ad.off + 3, none⟩ = some (.int .i64 y) := by rw [Nat.zero_mul, addr_zero] at c3; exact c3
        have sc := s3.cut (k := 1) (K := 4) hpos rfl
        have sc : Sl w3 (if d1 = 1 then B1 else B1.map (fun x => x.add 4)) (k1 - 1) (d1 - 1) 4 (dls (ys.drop 1)) := by
          have h := sc; rw [show (4 : Nat) = 1 * 4 from rfl, flat_drop dlC_len] at h; exact h
        have C1 := fun A n c W (hW : Sl W A n c 4 (dls (ys.drop 1))) => dlI_any A n c (ys.drop 1) W hW (fun x hx => HOK.out x (List.mem_of_mem_drop hx))
        rw [dl_tail HV.out] at C1
        have C2 := fun A n c W (hW : Sl W A n c 4 (dls ((m, a, t, y) :: ys))) => dlI_any A n c ((m, a, t, y) :: ys) W hW (fun x hx => by
          rw [List.mem_cons] at hx
          rcases hx with rfl | hx
          · exact HOK.out _ (List.mem_of_getElem? hab)
          · exact HOK.out x hx)
        rw [dl_dup hab] at C2
        have hcap := s3.cap
        have hmax := s3.max
        unfold maxLen at hmax
        have HC := hid (And.intro c0 (And.intro c1 (And.intro c2 c3)))
        have K1 : d1 = 1 → _ := fun q => C1 B1 (k1 - 1) 0 w3 (by rw [if_pos q, q] at sc; exact sc)
        have K2 : ¬ d1 = 1 → _ := fun q => C1 (B1.map (fun x => { block := x.block, off := x.off + 4 })) (k1 - 1) (d1 - 1) w3 (by rw [if_neg q] at sc; exact sc)
        clear hk0 hab hA c0 c1 c2 c3 sc C1
        by_cases hd1 : d1 = 1
        · have K := K1 hd1
          clear K1 K2
          subst hd1
          obtain rfl : k1 = 1 := by omega
          replace K : Calls Try.prog 7 #[.slice B1 0 0] w3 _ := K
          go_wp2_with fail
          refine K.mono ?_
          rintro e' w4 ⟨rfl, x4⟩
          have s4 := s3.ext x4
          have c0 := x4.cell HC.out.1
          have c1 := x4.cell HC.out.2.1
          have c2 := x4.cell HC.out.2.2.1
          have c3 := x4.cell HC.out.2.2.2
          have T4 := below_next T3 x4.below
          have hA := HA.out
          clear x4 s3 T3 o3 HC HA K
          subst hA
          have O0 := own_lit w4 (dlC (m, a, t, y)) 28 4 1 w4.heap.size rfl rfl (by decide)
          go_wp2_with (at_builtin; refine wpList_append_on (by rfl) (.tmp 31) (.tmp 32) eltDelivery rfl w4.heap.size (.slice (some ⟨w4.heap.size, 0, none⟩) 1 1) 1 (dlC (m, a, t, y)) rfl O0 (some ad) _ _ (dls ys) rfl (s4.see.alloc _) (s4.of_none (by decide)) s4.len (flat_one dlC_one _) (by unfold maxLen; omega) (by omega) (by simp) ?_; intro v5 w5 O5 G5 _)
          rw [show dlC (m, a, t, y) ++ dls ys = dls ((m, a, t, y) :: ys) by simp [flat]] at O5
          have T5 : Below w.heap.size w w5 := (T4.alloc T4.size _).grown G5 (Nat.le_trans T4.size (by simp)) (by rintro q hq; simp [Value.ownBlock] at hq; have := T4.size; omega)
          obtain ⟨B5, d5, rfl, _⟩ := own_form O5
          clear T4 G5 O0 s4 c0 c1 c2 c3
          go_wp2_with fail
          refine (C2 _ _ _ _ (own_sl O5)).mono ?_
          rintro e' w6 ⟨rfl, x6⟩
          have T6 := below_next T5 x6.below
          go_wp2_with fail
          go_ret
          exact ⟨rfl, T6⟩
        · have K := K2 hd1
          clear K1 K2
          go_wp2_with fail
          refine K.mono ?_
          rintro e' w4 ⟨rfl, x4⟩
          have s4 := s3.ext x4
          have c0 := x4.cell HC.out.1
          have c1 := x4.cell HC.out.2.1
          have c2 := x4.cell HC.out.2.2.1
          have c3 := x4.cell HC.out.2.2.2
          have T4 := below_next T3 x4.below
          have hA := HA.out
          clear x4 s3 T3 o3 HC HA K
          subst hA
          have O0 := own_lit w4 (dlC (m, a, t, y)) 28 4 1 w4.heap.size rfl rfl (by decide)
          go_wp2_with (at_builtin; refine wpList_append_on (by rfl) (.tmp 31) (.tmp 32) eltDelivery rfl w4.heap.size (.slice (some ⟨w4.heap.size, 0, none⟩) 1 1) 1 (dlC (m, a, t, y)) rfl O0 (some ad) _ _ (dls ys) rfl (s4.see.alloc _) (s4.of_none (by decide)) s4.len (flat_one dlC_one _) (by unfold maxLen; omega) (by omega) (by simp) ?_; intro v5 w5 O5 G5 _)
          rw [show dlC (m, a, t, y) ++ dls ys = dls ((m, a, t, y) :: ys) by simp [flat]] at O5
          have T5 : Below w.heap.size w w5 := (T4.alloc T4.size _).grown G5 (Nat.le_trans T4.size (by simp)) (by rintro q hq; simp [Value.ownBlock] at hq; have := T4.size; omega)
          obtain ⟨B5, d5, rfl, _⟩ := own_form O5
          clear T4 G5 O0 s4 c0 c1 c2 c3
          go_wp2_with fail
          refine (C2 _ _ _ _ (own_sl O5)).mono ?_
          rintro e' w6 ⟨rfl, x6⟩
          have T6 := below_next T5 x6.below
          go_wp2_with fail
          go_ret
          exact ⟨rfl, T6⟩
end Go.Proofs.Ytbnoonaefcogdaa.fnDeliveriesValid
