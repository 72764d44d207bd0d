/-
  A part of the proof of MessageTakes: the texts C1.
-/
import Derived.Test.YtjehnejgojgahaaGreatDoorK26
import Derived.Test.YtjehnejgojgahaaGreatDoorK32
import Derived.MapViews
import Derived.ChangeKeysEq
import Derived.Deep.Slices
import Derived.ChangeSlices
import Derived.Lib.LaidTab
namespace Go.Proofs.YtjehnejgojgahaaGreatDoor
open Go.RowKit
set_option linter.unusedVariables false
set_option linter.unusedSimpArgs false
theorem wf_u8 {n : Int} (h : (Lit.int .u8 n).wf = true) : ∃ x : UInt8, n = x.toNat := by
 have h' : (decide (IntKind.u8.min ≤ n) && decide (n ≤ IntKind.u8.max)) = true := h
 have h0 : IntKind.u8.min = 0 := rfl
 have h1 : IntKind.u8.max = 255 := rfl
 rw [h0, h1, Bool.and_eq_true, decide_eq_true_eq, decide_eq_true_eq] at h'
 refine ⟨UInt8.ofNat n.toNat, ?_⟩
 rw [UInt8.toNat_ofNat']
 omega
end Go.Proofs.YtjehnejgojgahaaGreatDoor
