/- The contract of the laws' marks: a text for each number. -/
import Derived.Test.YtlfjnaeepblhiaaFlat
namespace Go.Proofs.Ytlfjnaeepblhiaa
open Go.RowKit
set_option linter.unusedVariables false

/-- The decimal digits of a number, ahead of a text. -/
def decB (k : Nat) (acc : ByteArray) : ByteArray := if h : k = 0 then acc else decB (k / 10) (⟨#[48 + UInt8.ofNat (k % 10)]⟩ ++ acc)
termination_by k
theorem decB_zero (acc : ByteArray) : decB 0 acc = acc := by rw [decB]; simp
theorem decB_step {k : Nat} (h : k ≠ 0) (acc : ByteArray) : decB k acc = decB (k / 10) (⟨#[48 + UInt8.ofNat (k % 10)]⟩ ++ acc) := by rw [decB]; simp [h]
@[irreducible] def mtB (k : Nat) : ByteArray := if k = 0 then ⟨#[109, 48]⟩ else ⟨#[109]⟩ ++ decB k ⟨#[]⟩
theorem mtB_pos {k : Nat} (h : k ≠ 0) : mtB k = ⟨#[109]⟩ ++ decB k ⟨#[]⟩ := by unfold mtB; rw [if_neg h]
theorem ret_str {a b : ByteArray} (h : a = b) : Ending.returned (.string a) = .returned (.string b) := by rw [h]
theorem conv_one (w : World) (d : Int) : (convert 22 9 (.slice (some ⟨w.heap.size, 0, none⟩) 1 1)).run Try.prog (w.alloc (.cells #[.int .u8 d] 5)) = .ok (.string ⟨#[UInt8.ofNat d.toNat]⟩) (w.alloc (.cells #[.int .u8 d] 5)) := by
  rw [run_convert_bytes_string _ _ _ 5 _ _ _ Try.underlying22 Try.underlying5 Try.underlying9]
  rw [run_bytesToString (w.alloc (.cells #[.int .u8 d] 5)) ⟨w.heap.size, 0, none⟩ 1 1 [d] (run_loadCells_list _ ⟨w.heap.size, 0, none⟩ [.int .u8 d] (fun j v h => by
    match j, h with
    | 0, h => simp at h; subst h; rw [addr_zero]; exact cell_of_row _ w.heap.size 0 _ _ _ (heap_alloc_new w _)
    | j + 1, h => simp at h))]
  rfl
theorem markText_any (k : Nat) (hk : 1 ≤ k) (hk2 : k ≤ 9000000000000000000) (w : World) : Calls Try.prog 57 #[.int .i64 k] w fun e w' => e = .returned (.string (mtB k)) ∧ Ext.of w w' := by
  have hP := hid (mtB_pos (k := k) (by omega))
  go_enter Try.func57, Try.ntmps57
  go_wp2
  go_loopw [0, 3] (fun q o wr => ∃ (j : Nat) (acc : ByteArray), acc.size + j ≤ k ∧ q = .int .i64 j ∧ o = .string acc ∧ Hid (decB j acc = decB k ⟨#[]⟩) ∧ Ext.of w wr) (fun q _ _ => (intOf q).toNat)
  case atStart => exact ⟨k, ⟨#[]⟩, by show 0 + k ≤ k; omega, rfl, rfl, rfl, Ext.of.refl _⟩
  case round =>
    obtain ⟨j, acc, hj, rfl, rfl, hd, hE⟩ := hrel
    by_cases h0 : j = 0
    · subst h0
      have R := hid (show ⟨#[109]⟩ ++ acc = mtB k by rw [hP.out, ← hd.out, decB_zero])
      go_wp2
      go_ret
      exact ⟨ret_str R.out, hE⟩
    · have hj0 : 0 < j := by omega
      have R := hid ((decB_step h0 acc).symm.trans hd.out)
      have hv := conv_one wr (48 + (j : Int) % 10)
      rw [show (48 + (j : Int) % 10).toNat = 48 + j % 10 by omega, UInt8.ofNat_add] at hv
      have hsz : ((⟨#[48 + UInt8.ofNat (j % 10)]⟩ : ByteArray) ++ acc).size = 1 + acc.size := by rw [ByteArray.size_append]; rfl
      have H := hid hsz
      clear hsz
      go_wp2
      go_roundw
      case rel => exact ⟨j / 10, _, by rw [H.out]; omega, by go_num, rfl, R, hE.alloc _⟩
      case measure => simp [intOf]; omega
theorem markText_at (k : Nat) (q : Int) (hq : q = (k : Int)) (hk : 1 ≤ k) (hk2 : k ≤ 9000000000000000000) (w : World) : Calls Try.prog 57 #[.int .i64 q] w fun e w' => e = .returned (.string (mtB k)) ∧ Ext.of w w' := by
  subst hq; exact markText_any k hk hk2 w
end Go.Proofs.Ytlfjnaeepblhiaa
