/-
  DERIVED. GIVEN WITH THE SEED: THE CARDS: each row of YtjehnejgojgahaaGreatDoorRows.lean that lists a variable, with what it lists TIED to the program's text (the seventh form; the later family's looks); each row that meets fmt, with fmt's text TOLD by the authors' own Lean function (tested against real Go, not proved from fmt's source: count such statements apart). THE CARD IS WHAT COUNTS. Prove the row's statement (the work); the ties are given (YtjehnejgojgahaaGreatDoorTie.lean); close each card by the builder's one call (the guide's Derived/Test/ToyasCard.lean, 'card_holds'). Laid BY PROGRAM, IN A SANDBOX (cutbox-door.mjs). By AI agents, Wed Nov 11 2026. No macro, syntax, notation, axiom, sorry.
-/
import Derived.Test.YtjehnejgojgahaaGreatDoorRows
import GoSem.ClaimSeven
namespace Go.Proofs.YtjehnejgojgahaaGreatDoor
namespace Rows

/-- THE TIED CARD OF 'escritoirelaw26.MessageTakes'. -/
def messageTakesCard : Claim7 := { stood := { row := messageTakesRow, standIns := [], harness := (true, "5ef1d406af59391f38237369a04baa03a195c105f3271cf12ec040efe6294717"), looks := true }, kinds := [], alts := [], laidByText := true, laidKinds := [.data, .data, .data, .data, .sentinel, .sentinel, .pinned], laidTests := true, laidLooks := .later }
def MessageTakesCardSaid : Prop := Claim7.holds Tryz.pinned (.plain (OpenSpec.ofChange messageTakesSpec)) messageTakesCard

/-- THE TIED CARD OF 'escritoirelaw26.MessageBack'. -/
def messageBackCard : Claim7 := { stood := { row := messageBackRow, standIns := [], harness := (true, "5ef1d406af59391f38237369a04baa03a195c105f3271cf12ec040efe6294717"), looks := true }, kinds := [], alts := [], laidByText := true, laidKinds := [.data, .data, .data, .data, .sentinel, .sentinel, .pinned], laidTests := true, laidLooks := .later }
def MessageBackCardSaid : Prop := Claim7.holds Tryz.pinned (.plain (OpenSpec.ofChange messageBackSpec)) messageBackCard

/-- THE SECOND FORM's CARD OF 'escritoirelaw26.MessageTakes'. -/
def messageTakesUptoCard : Claim7 := { stood := { row := messageTakesUptoRow, standIns := [], harness := (true, "5ef1d406af59391f38237369a04baa03a195c105f3271cf12ec040efe6294717"), looks := true }, kinds := [], alts := [], laidByText := true, laidKinds := [.data, .data, .data, .data, .sentinel, .sentinel, .pinned], laidTests := true, laidLooks := .later }
def MessageTakesUptoCardSaid : Prop := Claim7.holds Tryz.pinned (.plain (OpenSpec.upto messageTakesSpec)) messageTakesUptoCard

/-- THE SECOND FORM's CARD OF 'escritoirelaw26.MessageBack'. -/
def messageBackUptoCard : Claim7 := { stood := { row := messageBackUptoRow, standIns := [], harness := (true, "5ef1d406af59391f38237369a04baa03a195c105f3271cf12ec040efe6294717"), looks := true }, kinds := [], alts := [], laidByText := true, laidKinds := [.data, .data, .data, .data, .sentinel, .sentinel, .pinned], laidTests := true, laidLooks := .later }
def MessageBackUptoCardSaid : Prop := Claim7.holds Tryz.pinned (.plain (OpenSpec.upto messageBackSpec)) messageBackUptoCard
end Rows
end Go.Proofs.YtjehnejgojgahaaGreatDoor
