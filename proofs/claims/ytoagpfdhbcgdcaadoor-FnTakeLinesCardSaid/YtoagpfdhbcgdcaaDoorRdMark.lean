/- The contracts of ReadMark, the program's and the reference's. -/
import Derived.Test.YtoagpfdhbcgdcaaDoorRdMarkV
namespace Go.Proofs.YtoagpfdhbcgdcaaDoor
open Go.RowKit
set_option linter.unusedVariables false
set_option linter.unusedSimpArgs false
theorem str_eq {x y : ByteArray} : (x.toList == y.toList) = decide (x = y) := by
  rw [Bool.eq_iff_iff]
  simp only [beq_iff_eq, decide_eq_true_eq]
  constructor
  · intro h
    rw [ByteArray.toList_eq, ByteArray.toList_eq] at h
    exact ba_list h
  · intro h; rw [h]
theorem pow6 {k : Nat} {v : Int} (h : v < 36 ^ k) (hk : k ≤ 7) : v ≤ 78364164095 := by
  have : (36 : Int) ^ k ≤ 36 ^ 7 := by
    obtain rfl | rfl | rfl | rfl | rfl | rfl | rfl | rfl : k = 0 ∨ k = 1 ∨ k = 2 ∨ k = 3 ∨ k = 4 ∨ k = 5 ∨ k = 6 ∨ k = 7 := by omega
    all_goals decide
  have h2 : (36 : Int) ^ 7 = 78364164096 := by decide
  omega
set_option maxRecDepth 4000 in
set_option maxHeartbeats 4000000 in
theorem rmI_any (s : ByteArray) (w : World) (hs : s.size ≤ 9223372036854775807) : Calls Tryd.prog 92 #[.string s] w fun e w' => e = .returned (.int .i64 (rmV s)) ∧ w = w' := by
  by_cases h1 : 1 ≤ s.size
  · by_cases h6 : s.size ≤ 6
    · have hb := byteAt_get (s := s) (j := 0) (by omega)
      have hlt0 : 0 < s.size := by omega
      by_cases hz : 1 < s.size ∧ byteAt s 0 = 48
      · have R := hid_ (rm_no (fun h => h.2.2.1 hz))
        rw [hb] at hz
        obtain ⟨z1, z2⟩ := hz
        have z3 : ((s[0]'hlt0).toNat : Int) == 48 := by rw [z2]; rfl
        clear hb
        go_enter Tryd.func92, Tryd.ntmps92
        go_wp2
        go_ret
        exact ⟨ret_i64 R.out.symm, rfl⟩
      · have HZ := hid_ hz
        have hz' : 1 < s.size → ¬ (s[0]'hlt0).toNat = 48 := fun h e => hz ⟨h, by rw [hb]; exact e⟩
        clear hz hb
        have core : ∀ (go : 1 < s.size ∨ s.size = 1), Calls Tryd.prog 92 #[.string s] w fun e w' => e = .returned (.int .i64 (rmV s)) ∧ w = w' := by
          intro go
          have HG := hid_ go
          clear go
          by_cases hg : 1 < s.size
          all_goals
            first
              | have z3 : (((s[0]'hlt0).toNat : Int) == 48) = false := by have := hz' hg; simp; omega
              | have z3 : decide (1 < s.size) = false := by simpa using hg
            have HH := hid_ hz'
            clear hz'
            go_enter Tryd.func92, Tryd.ntmps92
            go_wp2
            go_loop [3, 4] (fun n i => ∃ (k : Nat) (v : Int), k ≤ s.size ∧ i = .int .i64 k ∧ n = .int .i64 v ∧ Hid (v = numTo s k) ∧ Hid (okTo s k) ∧ 0 ≤ v ∧ v ≤ 78364164095) (fun _ i => s.size - (intOf i).toNat)
            case atStart => exact ⟨0, 0, Nat.zero_le _, rfl, rfl, (numTo_zero s).symm, (fun j hj => by omega), by omega, by omega⟩
            case round =>
              obtain ⟨k, v, hk, rfl, rfl, hv, hok, v0, v1⟩ := hrel
              by_cases hlt : k < s.size
              · have hbk := byteAt_get (s := s) (j := k) hlt
                have hub := byteAt_lt s k
                rw [hbk] at hub
                have DG := fun W => digit_any ((s[k]'hlt).toNat : Int) (by omega) (by omega) W
                by_cases hc : isWc (byteAt s k)
                · have hc' := hc
                  rw [hbk] at hc'
                  have hd := dv_wc hc'
                  have N := hid_ (numTo_next hlt)
                  have K := hid_ (okTo_next hok.out hc)
                  have B := hid_ (numTo_le K.out hlt)
                  rw [← hv.out] at N
                  clear hv hok hc hc' hbk
                  generalize dv ((s[k]'hlt).toNat : Int) = dd at *
                  obtain ⟨d0, d1⟩ := hd
                  have t0 : decide (dd < 0) = false := by simp; omega
                  have hv6 : v * 36 + dd ≤ 78364164095 := by rw [← N.out]; exact pow6 B.out.2 (by omega)
                  go_wp2_with fail
                  refine (DG _).mono ?_
                  rintro e' w' ⟨rfl, rfl⟩
                  go_wp2
                  go_round
                  case rel => exact ⟨k + 1, _, by omega, by go_num, rfl, N.out.symm, K, by omega, hv6⟩
                  case measure => simp [intOf]; omega
                · have hd : dv ((s[k]'hlt).toNat : Int) < 0 := by rw [dv_neg (by omega), Int.toNat_natCast, ← hbk]; exact hc
                  have R := hid_ (rm_no (rm_digit hlt hc))
                  clear hv hok hc hbk
                  generalize dv ((s[k]'hlt).toNat : Int) = dd at *
                  have t0 : decide (dd < 0) = true := by simpa using hd
                  go_wp2_with fail
                  refine (DG _).mono ?_
                  rintro e' w' ⟨rfl, rfl⟩
                  go_wp2
                  go_ret
                  exact ⟨ret_i64 R.out.symm, rfl⟩
              · obtain rfl : k = s.size := by omega
                by_cases hg9 : v ≤ 1000000000
                · have R := hid_ (show rmV s = v by rw [rm_yes ⟨h1, h6, HZ.out, hok.out, by rw [← hv.out]; exact hg9⟩, hv.out])
                  have t0 : decide (1000000000 < v) = false := by simp; omega
                  clear hv hok
                  go_wp2
                  go_ret
                  exact ⟨ret_i64 R.out.symm, rfl⟩
                · have R := hid_ (rm_no (s := s) (fun h => hg9 (by rw [hv.out]; exact h.2.2.2.2)))
                  have t0 : decide (1000000000 < v) = true := by simp; omega
                  clear hv hok
                  go_wp2
                  go_ret
                  exact ⟨ret_i64 R.out.symm, rfl⟩
        exact core (by omega)
    · have R := hid_ (rm_no (s := s) (fun h => h6 h.2.1))
      go_enter Tryd.func92, Tryd.ntmps92
      go_wp2
      go_ret
      exact ⟨ret_i64 R.out.symm, rfl⟩
  · have R := hid_ (rm_no (s := s) (fun h => h1 h.1))
    go_enter Tryd.func92, Tryd.ntmps92
    go_wp2
    go_ret
    exact ⟨ret_i64 R.out.symm, rfl⟩
set_option maxRecDepth 4000 in
set_option maxHeartbeats 4000000 in
theorem rmS_any (s : ByteArray) (w : World) (hs : s.size ≤ 9223372036854775807) : Calls Tryd.prog 94 #[.string s] w fun e w' => e = .returned (.int .i64 (rmV s)) ∧ w = w' := by
  go_enter Tryd.func94, Tryd.ntmps94
  go_wp2
  go_loop [3, 4] (fun n i => ∃ (k : Nat) (v : Int), k ≤ s.size ∧ k ≤ 7 ∧ i = .int .i64 k ∧ n = .int .i64 v ∧ Hid (v = numTo s k) ∧ Hid (okTo s k) ∧ 0 ≤ v ∧ v ≤ 78364164095) (fun _ i => s.size - (intOf i).toNat)
  case atStart => exact ⟨0, 0, Nat.zero_le _, by omega, rfl, rfl, (numTo_zero s).symm, (fun j hj => by omega), by omega, by omega⟩
  case round =>
    obtain ⟨k, v, hk, hk7, rfl, rfl, hv, hok, v0, v1⟩ := hrel
    by_cases hlt : k < s.size
    · by_cases h7 : k < 7
      · have hbk := byteAt_get (s := s) (j := k) hlt
        have hub := byteAt_lt s k
        rw [hbk] at hub
        by_cases hc : isWc (byteAt s k)
        · have N := hid_ (numTo_next hlt)
          have K := hid_ (okTo_next hok.out hc)
          have B := hid_ (numTo_le K.out hlt)
          have hdv : ∀ c : Nat, (48 ≤ c ∧ c ≤ 57 → dv (c : Int) = (c : Int) - 48) ∧ (97 ≤ c ∧ c ≤ 122 → dv (c : Int) = (c : Int) - 97 + 10) := fun c => by
            unfold dv
            refine ⟨fun h => ?_, fun h => ?_⟩
            · rw [if_pos ⟨by omega, by omega⟩]
            · rw [if_neg (by omega), if_pos ⟨by omega, by omega⟩]; omega
          have hc' := hc
          rw [hbk] at hc'
          rcases hc' with hc' | hc'
          · have e := (hdv _).1 hc'
            obtain ⟨c0, c1⟩ := hc'
            rw [← hv.out, e] at N
            have hv6 : 36 * v + (((s[k]'hlt).toNat : Int) - 48) ≤ 78364164095 := by have h1 := pow6 B.out.2 (by omega); rw [N.out] at h1; omega
            have N2 := hid_ (show 36 * v + (((s[k]'hlt).toNat : Int) - 48) = numTo s (k + 1) by rw [N.out]; omega)
            clear hv hok hc hbk N e hdv B
            have t1 : decide (48 ≤ ((s[k]'hlt).toNat : Int)) = true := by simp; omega
            have t2 : decide (((s[k]'hlt).toNat : Int) ≤ 57) = true := by simp; omega
            go_wp2
            go_round
            case rel => exact ⟨k + 1, _, by omega, by omega, by go_num, rfl, N2, K, by omega, hv6⟩
            case measure => simp [intOf]; omega
          · have e := (hdv _).2 hc'
            obtain ⟨c0, c1⟩ := hc'
            rw [← hv.out, e] at N
            have hv6 : 36 * v + (((s[k]'hlt).toNat : Int) - 97) + 10 ≤ 78364164095 := by have h1 := pow6 B.out.2 (by omega); rw [N.out] at h1; omega
            have N2 := hid_ (show 36 * v + (((s[k]'hlt).toNat : Int) - 97) + 10 = numTo s (k + 1) by rw [N.out]; omega)
            clear hv hok hc hbk N e hdv B
            have t1 : decide (48 ≤ ((s[k]'hlt).toNat : Int)) = true := by simp; omega
            have t2 : decide (((s[k]'hlt).toNat : Int) ≤ 57) = false := by simp; omega
            have t3 : decide (97 ≤ ((s[k]'hlt).toNat : Int)) = true := by simp; omega
            have t4 : decide (((s[k]'hlt).toNat : Int) ≤ 122) = true := by simp; omega
            go_wp2
            go_round
            case rel => exact ⟨k + 1, _, by omega, by omega, by go_num, rfl, N2, K, by omega, hv6⟩
            case measure => simp [intOf]; omega
        · have R := hid_ (rm_no (rm_digit hlt hc))
          have hc' := hc
          rw [hbk] at hc'
          clear hv hok hc hbk
          have hc3 : (s[k]'hlt).toNat < 48 ∨ (57 < (s[k]'hlt).toNat ∧ (s[k]'hlt).toNat < 97) ∨ 122 < (s[k]'hlt).toNat := by unfold isWc at hc'; omega
          clear hc'
          rcases hc3 with c0 | ⟨c0, c1⟩ | c0
          · have t1 : decide (48 ≤ ((s[k]'hlt).toNat : Int)) = false := by simp; omega
            have t3 : decide (97 ≤ ((s[k]'hlt).toNat : Int)) = false := by simp; omega
            go_wp2
            go_ret
            exact ⟨ret_i64 R.out.symm, rfl⟩
          · have t1 : decide (48 ≤ ((s[k]'hlt).toNat : Int)) = true := by simp; omega
            have t2 : decide (((s[k]'hlt).toNat : Int) ≤ 57) = false := by simp; omega
            have t3 : decide (97 ≤ ((s[k]'hlt).toNat : Int)) = false := by simp; omega
            go_wp2
            go_ret
            exact ⟨ret_i64 R.out.symm, rfl⟩
          · have t1 : decide (48 ≤ ((s[k]'hlt).toNat : Int)) = true := by simp; omega
            have t2 : decide (((s[k]'hlt).toNat : Int) ≤ 57) = false := by simp; omega
            have t3 : decide (97 ≤ ((s[k]'hlt).toNat : Int)) = true := by simp; omega
            have t4 : decide (((s[k]'hlt).toNat : Int) ≤ 122) = false := by simp; omega
            go_wp2
            go_ret
            exact ⟨ret_i64 R.out.symm, rfl⟩
      · have L := hid_ (rm_mark (s := s) (k := k) (by omega) (by omega) hok.out)
        have hk6 : k = 7 := by omega
        have hne : ¬ rmP s := fun h => by have := h.2.1; omega
        have he : ((markV v).toList == s.toList) = false := by rw [str_eq, hv.out]; exact decide_eq_false fun e => hne (L.out.1 e)
        have R := hid_ (rm_no hne)
        have hse : (s.toList == ([] : List UInt8)) = false := by
          rw [ByteArray.toList_eq]
          cases hx : s.data.toList with
          | nil => have : s.data.toList.length = s.size := by simp
                   rw [hx] at this; simp at this; omega
          | cons => rfl
        clear hv hok L hne
        go_wp2_with fail
        refine (markS_any v _).mono ?_
        rintro e' w' ⟨rfl, rfl⟩
        go_wp2
        go_ret
        exact ⟨ret_i64 R.out.symm, rfl⟩
    · obtain rfl : k = s.size := by omega
      by_cases h0 : s.size = 0
      · have R := hid_ (rm_no (rm_empty h0))
        have hse : (s.toList == ([] : List UInt8)) = true := by
          rw [ByteArray.toList_eq]
          cases hx : s.data.toList with
          | nil => rfl
          | cons => have : s.data.toList.length = s.size := by simp
                    rw [hx, h0] at this; simp at this
        clear hv hok
        go_wp2
        go_ret
        exact ⟨ret_i64 R.out.symm, rfl⟩
      · have L := rm_mark (s := s) (k := s.size) (by omega) (by omega) hok.out
        have hse : (s.toList == ([] : List UInt8)) = false := by
          rw [ByteArray.toList_eq]
          cases hx : s.data.toList with
          | nil => have : s.data.toList.length = s.size := by simp
                   rw [hx] at this; simp at this; omega
          | cons => rfl
        by_cases hp : rmP s
        · have he : ((markV v).toList == s.toList) = true := by rw [str_eq, hv.out]; exact decide_eq_true (L.2 hp)
          have R := hid_ (show rmV s = v by rw [rm_yes hp, hv.out])
          clear hv hok L
          go_wp2_with fail
          refine (markS_any v _).mono ?_
          rintro e' w' ⟨rfl, rfl⟩
          go_wp2
          go_ret
          exact ⟨ret_i64 R.out.symm, rfl⟩
        · have he : ((markV v).toList == s.toList) = false := by rw [str_eq, hv.out]; exact decide_eq_false fun e => hp (L.1 e)
          have R := hid_ (rm_no hp)
          clear hv hok L
          go_wp2_with fail
          refine (markS_any v _).mono ?_
          rintro e' w' ⟨rfl, rfl⟩
          go_wp2
          go_ret
          exact ⟨ret_i64 R.out.symm, rfl⟩
end Go.Proofs.YtoagpfdhbcgdcaaDoor
