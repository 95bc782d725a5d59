/- The contracts of strings.Split, Cut and HasPrefix, laid at this program. -/
import Derived.Test.YtoagpfdhbcgdcaaDoorG1
import Derived.Shelf.Strings.Split
import Derived.Shelf.Strings.Cut
import Derived.Shelf.Strings.Prefix
import Derived.Ground.NamesProg
namespace Go.Proofs.YtoagpfdhbcgdcaaDoor
open Go.RowKit Go.Shelf Go.Lib
set_option linter.unusedVariables false
def Tryd.lsplit_ren : Go.Shelf.Ren := ⟨fun | 146 => 89 | 221 => 97 | 268 => 100 | 138 => 101 | 143 => 102 | 195 => 105 | 197 => 106 | 218 => 107 | 219 => 108 | 260 => 109 | 217 => 110 | 225 => 111 | 224 => 112 | 267 => 113 | 266 => 114 | 314 => 115 | n => n, fun | 9 => 9 | 31 => 51 | 3 => 3 | 4 => 4 | 0 => 0 | 105 => 113 | 21 => 21 | 5 => 5 | 46 => 116 | 119 => 117 | 139 => 120 | 138 => 119 | 146 => 122 | 51 => 121 | n => n, fun | 1 => 1 | 3 => 2 | 4 => 3 | n => n⟩
theorem Tryd.lsplit : Go.Proofs.Lays.n146 Tryd.prog Tryd.lsplit_ren := {
  mixed := by kernel_rfl
  f138 := Tryd.func101.trans (congrArg some (by kernel_rfl))
  f143 := Tryd.func102.trans (congrArg some (by kernel_rfl))
  f146 := Tryd.func89.trans (congrArg some (by kernel_rfl))
  f195 := Tryd.func105.trans (congrArg some (by kernel_rfl))
  f197 := Tryd.func106.trans (congrArg some (by kernel_rfl))
  f217 := Tryd.func110.trans (congrArg some (by kernel_rfl))
  f218 := Tryd.func107.trans (congrArg some (by kernel_rfl))
  f219 := Tryd.func108.trans (congrArg some (by kernel_rfl))
  f221 := Tryd.func97.trans (congrArg some (by kernel_rfl))
  f224 := Tryd.func112.trans (congrArg some (by kernel_rfl))
  f225 := Tryd.func111.trans (congrArg some (by kernel_rfl))
  f260 := Tryd.func109.trans (congrArg some (by kernel_rfl))
  f266 := Tryd.func114.trans (congrArg some (by kernel_rfl))
  f267 := Tryd.func113.trans (congrArg some (by kernel_rfl))
  f268 := Tryd.func100.trans (congrArg some (by kernel_rfl))
  f314 := Tryd.func115.trans (congrArg some (by kernel_rfl))
  t0 := Tryd.underlying0
  a0 := Tryd.isAgg0
  z0 := Tryd.sizeOf0
  v0 := Tryd.zeroValue0
  t3 := Tryd.underlying3
  a3 := Tryd.isAgg3
  z3 := Tryd.sizeOf3
  v3 := Tryd.zeroValue3
  t4 := Tryd.underlying4
  a4 := Tryd.isAgg4
  z4 := Tryd.sizeOf4
  v4 := Tryd.zeroValue4
  t5 := Tryd.underlying5
  a5 := Tryd.isAgg5
  z5 := Tryd.sizeOf5
  v5 := Tryd.zeroValue5
  t9 := Tryd.underlying9
  a9 := Tryd.isAgg9
  z9 := Tryd.sizeOf9
  v9 := Tryd.zeroValue9
  t21 := Tryd.underlying21
  a21 := Tryd.isAgg21
  z21 := Tryd.sizeOf21
  v21 := Tryd.zeroValue21
  t31 := Tryd.underlying51
  a31 := Tryd.isAgg51
  z31 := Tryd.sizeOf51
  v31 := Tryd.zeroValue51
  t46 := Tryd.underlying116
  a46 := Tryd.isAgg116
  z46 := Tryd.sizeOf116
  v46 := Tryd.zeroValue116
  t51 := Tryd.underlying121
  a51 := Tryd.isAgg121
  z51 := Tryd.sizeOf121
  v51 := Tryd.zeroValue121
  t105 := Tryd.underlying113
  a105 := Tryd.isAgg113
  z105 := Tryd.sizeOf113
  v105 := Tryd.zeroValue113
  t119 := Tryd.underlying117
  a119 := Tryd.isAgg117
  z119 := Tryd.sizeOf117
  t138 := Tryd.underlying119
  a138 := Tryd.isAgg119
  z138 := Tryd.sizeOf119
  v138 := Tryd.zeroValue119
  t139 := Tryd.underlying120
  a139 := Tryd.isAgg120
  z139 := Tryd.sizeOf120
  v139 := Tryd.zeroValue120
  t146 := Tryd.underlying122
  a146 := Tryd.isAgg122
  z146 := Tryd.sizeOf122
  v146 := Tryd.zeroValue122
  g1 := by kernel_rfl
  g3 := by kernel_rfl
  g4 := by kernel_rfl }
def Tryd.lcut_ren : Go.Shelf.Ren := ⟨fun | 145 => 99 | 220 => 104 | 219 => 108 | 217 => 110 | 225 => 111 | 224 => 112 | 267 => 113 | 266 => 114 | 314 => 115 | n => n, fun | 9 => 9 | 4 => 4 | 59 => 109 | 3 => 3 | 5 => 5 | 46 => 116 | 146 => 122 | 51 => 121 | n => n, fun | 1 => 1 | n => n⟩
theorem Tryd.lcut : Go.Proofs.Lays.n145 Tryd.prog Tryd.lcut_ren := {
  mixed := by kernel_rfl
  f145 := Tryd.func99.trans (congrArg some (by kernel_rfl))
  f217 := Tryd.func110.trans (congrArg some (by kernel_rfl))
  f219 := Tryd.func108.trans (congrArg some (by kernel_rfl))
  f220 := Tryd.func104.trans (congrArg some (by kernel_rfl))
  f224 := Tryd.func112.trans (congrArg some (by kernel_rfl))
  f225 := Tryd.func111.trans (congrArg some (by kernel_rfl))
  f266 := Tryd.func114.trans (congrArg some (by kernel_rfl))
  f267 := Tryd.func113.trans (congrArg some (by kernel_rfl))
  f314 := Tryd.func115.trans (congrArg some (by kernel_rfl))
  t3 := Tryd.underlying3
  a3 := Tryd.isAgg3
  z3 := Tryd.sizeOf3
  v3 := Tryd.zeroValue3
  t4 := Tryd.underlying4
  a4 := Tryd.isAgg4
  z4 := Tryd.sizeOf4
  v4 := Tryd.zeroValue4
  t5 := Tryd.underlying5
  a5 := Tryd.isAgg5
  z5 := Tryd.sizeOf5
  v5 := Tryd.zeroValue5
  t9 := Tryd.underlying9
  a9 := Tryd.isAgg9
  z9 := Tryd.sizeOf9
  v9 := Tryd.zeroValue9
  t46 := Tryd.underlying116
  a46 := Tryd.isAgg116
  z46 := Tryd.sizeOf116
  v46 := Tryd.zeroValue116
  t51 := Tryd.underlying121
  a51 := Tryd.isAgg121
  z51 := Tryd.sizeOf121
  v51 := Tryd.zeroValue121
  t59 := Tryd.underlying109
  a59 := Tryd.isAgg109
  z59 := Tryd.sizeOf109
  v59 := Tryd.zeroValue109
  t146 := Tryd.underlying122
  a146 := Tryd.isAgg122
  z146 := Tryd.sizeOf122
  v146 := Tryd.zeroValue122
  g1 := by kernel_rfl }
def Tryd.lpre_ren : Go.Shelf.Ren := ⟨fun | 99 => 98 | 206 => 103 | n => n, fun | 9 => 9 | 4 => 4 | 3 => 3 | n => n, fun | n => n⟩
theorem Tryd.lpre : Go.Proofs.Lays.n99 Tryd.prog Tryd.lpre_ren := {
  mixed := by kernel_rfl
  f99 := Tryd.func98.trans (congrArg some (by kernel_rfl))
  f206 := Tryd.func103.trans (congrArg some (by kernel_rfl))
  t3 := Tryd.underlying3
  a3 := Tryd.isAgg3
  z3 := Tryd.sizeOf3
  v3 := Tryd.zeroValue3
  t4 := Tryd.underlying4
  a4 := Tryd.isAgg4
  z4 := Tryd.sizeOf4
  v4 := Tryd.zeroValue4
  t9 := Tryd.underlying9
  a9 := Tryd.isAgg9
  z9 := Tryd.sizeOf9
  v9 := Tryd.zeroValue9 }
/-- The library's bound lies there. -/
def ML (w : World) : Prop := ∃ m : Int, w.cell? ⟨1, 0, none⟩ = some (.int .i64 m)
theorem ML.below {w w' : World} (h : ML w) (hb : Below w.heap.size w w') : ML w' := by
  obtain ⟨m, hm⟩ := h
  exact ⟨m, (hb.cell (World.block_lt_of_cell? w _ hm)).trans hm⟩
theorem ML.ext {w w' : World} (h : ML w) (hx : Ext.of w w') : ML w' := h.below hx.below
/-- The words between blanks. -/
@[irreducible] def wordsV (s : ByteArray) : List ByteArray := splitB ⟨#[32]⟩ 0 (countB s ⟨#[32]⟩) s
theorem wordsV_eq (s : ByteArray) : wordsV s = splitB ⟨#[32]⟩ 0 (countB s ⟨#[32]⟩) s := by unfold wordsV; rfl
theorem wordsV_len (s : ByteArray) : (wordsV s).length = countB s ⟨#[32]⟩ + 1 := by rw [wordsV_eq]; exact splitB_all _ (by decide) 0 _ s rfl
theorem split_any (s : ByteArray) (w : World) (hs : s.size < 4294967281) (hM : ML w) :
    Calls Tryd.prog 89 #[.string s, .string ⟨#[32]⟩] w fun e w' => e = .returned (.slice (some ⟨w.heap.size, 0, none⟩) (wordsV s).length (wordsV s).length) ∧ w' = w.alloc (.cells ((wordsV s).map Value.string).toArray 9) := by
  obtain ⟨m, hm⟩ := hM
  rw [wordsV_len, wordsV_eq]
  exact Any.strings_Split Tryd.lsplit (by kernel_rfl) s ⟨#[32]⟩ m w hs hm (by decide)
/-- A text around the first sign '@'. -/
@[irreducible] def cutV (s : ByteArray) : List UInt8 × List UInt8 × Bool := cut s.data.toList [64]
theorem cutV_eq (s : ByteArray) : cutV s = cut s.data.toList [64] := by unfold cutV; rfl
theorem cut_any (s : ByteArray) (w : World) (hs : s.size < 4294967281) (hM : ML w) :
    Calls Tryd.prog 99 #[.string s, .string ⟨#[64]⟩] w fun e w' => e = .returned (.tuple #[.string ⟨(cutV s).1.toArray⟩, .string ⟨(cutV s).2.1.toArray⟩, .bool (cutV s).2.2]) ∧ Ext.of w w' := by
  obtain ⟨m, hm⟩ := hM
  rw [cutV_eq]
  refine (Any.strings_Cut Tryd.lcut s ⟨#[64]⟩ m w hs hm).mono ?_
  rintro e w' ⟨he, n, rfl⟩
  exact ⟨he, Ext.of_below (below_drewN (Below.refl _ _) n)⟩
@[irreducible] def preV (s : ByteArray) : Bool := hasPrefix s.data.toList [64]
theorem preV_eq (s : ByteArray) : preV s = hasPrefix s.data.toList [64] := by unfold preV; rfl
theorem pre_any (s : ByteArray) (w : World) : Calls Tryd.prog 98 #[.string s, .string ⟨#[64]⟩] w fun e w' => e = .returned (.bool (preV s)) ∧ w = w' := by
  rw [preV_eq]
  exact (Any.strings_HasPrefix Tryd.lpre s ⟨#[64]⟩ w).mono fun e w' h => ⟨h.1, h.2.symm⟩
end Go.Proofs.YtoagpfdhbcgdcaaDoor
