/-
  A part of the proof of MessageTakes: the texts L2.
-/
import Derived.Shelf.Unicode.ValidAny
import Derived.Below
import Derived.Test.YtjehnejgojgahaaGreatDoorProg
namespace Go.Proofs.YtjehnejgojgahaaGreatDoor
set_option linter.unusedVariables false
set_option linter.unusedSimpArgs false
end Go.Proofs.YtjehnejgojgahaaGreatDoor
namespace Go.Proofs
open Go.Shelf Go.RowKit
def Tryz.laysValid_ren : Go.Shelf.Ren := ⟨fun | 196 => 142 | 259 => 164 | n => n, fun | 9 => 9 | 4 => 4 | 3 => 3 | 5 => 5 | 12 => 12 | 119 => 228 | 0 => 0 | 46 => 171 | 139 => 231 | 138 => 230 | 53 => 25 | n => n, fun | 3 => 0 | 4 => 1 | n => n⟩
theorem Tryz.laysValid : Go.Proofs.Lays.n196 Tryz.prog Tryz.laysValid_ren := {
 mixed := by kernel_rfl
 f196 := Tryz.func142.trans (congrArg some (by kernel_rfl))
 f259 := Tryz.func164.trans (congrArg some (by kernel_rfl))
 t0 := Tryz.underlying0
 a0 := Tryz.isAgg0
 z0 := Tryz.sizeOf0
 v0 := Tryz.zeroValue0
 t3 := Tryz.underlying3
 a3 := Tryz.isAgg3
 z3 := Tryz.sizeOf3
 v3 := Tryz.zeroValue3
 t4 := Tryz.underlying4
 a4 := Tryz.isAgg4
 z4 := Tryz.sizeOf4
 v4 := Tryz.zeroValue4
 t5 := Tryz.underlying5
 a5 := Tryz.isAgg5
 z5 := Tryz.sizeOf5
 v5 := Tryz.zeroValue5
 t9 := Tryz.underlying9
 a9 := Tryz.isAgg9
 z9 := Tryz.sizeOf9
 v9 := Tryz.zeroValue9
 t12 := Tryz.underlying12
 a12 := Tryz.isAgg12
 z12 := Tryz.sizeOf12
 v12 := Tryz.zeroValue12
 t46 := Tryz.underlying171
 a46 := Tryz.isAgg171
 z46 := Tryz.sizeOf171
 v46 := Tryz.zeroValue171
 t53 := Tryz.underlying25
 a53 := Tryz.isAgg25
 z53 := Tryz.sizeOf25
 v53 := Tryz.zeroValue25
 t119 := Tryz.underlying228
 a119 := Tryz.isAgg228
 z119 := Tryz.sizeOf228
 t138 := Tryz.underlying230
 a138 := Tryz.isAgg230
 z138 := Tryz.sizeOf230
 v138 := Tryz.zeroValue230
 t139 := Tryz.underlying231
 a139 := Tryz.isAgg231
 z139 := Tryz.sizeOf231
 v139 := Tryz.zeroValue231
 g3 := by kernel_rfl
 g4 := by kernel_rfl }
theorem Tryz.utf8_ValidString (s : ByteArray) (w : World) (hs : s.size ≤ 9223372036854775807) (hT : Lib.Utf8Tabs 0 1 w) :
  Calls Tryz.prog 142 #[.string s] w fun e w' => e = .returned (.bool (Lib.validD s.data.toList)) ∧ Below w.heap.size w w' := Any.utf8_ValidString Tryz.laysValid s w hs hT
end Go.Proofs
namespace Go.Proofs.YtjehnejgojgahaaGreatDoor
end Go.Proofs.YtjehnejgojgahaaGreatDoor
