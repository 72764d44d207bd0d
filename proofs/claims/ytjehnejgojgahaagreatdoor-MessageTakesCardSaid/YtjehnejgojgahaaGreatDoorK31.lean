/-
  A part of the proof of MessageTakes: the texts Y1.
-/
import Derived.Test.YtjehnejgojgahaaGreatDoorK26
import Derived.Lib.SlBytesConst
import Derived.ArgAppend
namespace Go.Proofs.YtjehnejgojgahaaGreatDoor
open Go.RowKit
set_option linter.unusedVariables false
set_option linter.unusedSimpArgs false

end Go.Proofs.YtjehnejgojgahaaGreatDoor
