/-
  DERIVED. GIVEN WITH THE SEED: THE CARDS: each row of YtinknenfhohamaaGreatDoorRows.lean that lists a variable, with what it lists TIED to the program's text (the seventh form; the later family's looks); each row that meets fmt, with fmt's text TOLD by the authors' own Lean function (tested against real Go, not proved from fmt's source: count such statements apart). THE CARD IS WHAT COUNTS. Prove the row's statement (the work); the ties are given (YtinknenfhohamaaGreatDoorTie.lean); close each card by the builder's one call (the guide's Derived/Test/ToyasCard.lean, 'card_holds'). Laid BY PROGRAM, IN A SANDBOX (cutbox-door.mjs). By AI agents, Wed Nov 11 2026. No macro, syntax, notation, axiom, sorry.
-/
import Derived.Test.YtinknenfhohamaaGreatDoorRows
import GoSem.ClaimSeven
namespace Go.Proofs.YtinknenfhohamaaGreatDoor
namespace Rows

/-- THE TIED CARD OF 'evergreentop.TopDelayed'. -/
def topDelayedCard : Claim7 := { stood := { row := topDelayedRow, standIns := [], harness := (true, "3e4e603ae2b44d7cb16b12f9d86c228d5532ebc4051894e217200aa2f09ea7e0"), looks := true }, kinds := [], alts := [], laidByText := true, laidKinds := [.data, .pinned, .pinned], laidTests := true, laidLooks := .later }
def TopDelayedCardSaid : Prop := Claim7.holds Tryz.pinned (.plain (OpenSpec.ofChange topDelayedSpec)) topDelayedCard

/-- THE SECOND FORM's CARD OF 'evergreentop.TopDelayed'. -/
def topDelayedUptoCard : Claim7 := { stood := { row := topDelayedUptoRow, standIns := [], harness := (true, "3e4e603ae2b44d7cb16b12f9d86c228d5532ebc4051894e217200aa2f09ea7e0"), looks := true }, kinds := [], alts := [], laidByText := true, laidKinds := [.data, .pinned, .pinned], laidTests := true, laidLooks := .later }
def TopDelayedUptoCardSaid : Prop := Claim7.holds Tryz.pinned (.plain (OpenSpec.upto topDelayedSpec)) topDelayedUptoCard
end Rows
end Go.Proofs.YtinknenfhohamaaGreatDoor
