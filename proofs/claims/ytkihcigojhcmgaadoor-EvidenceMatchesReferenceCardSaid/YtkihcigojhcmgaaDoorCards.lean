/-
  DERIVED. GIVEN WITH THE SEED: THE CARDS: each row of YtkihcigojhcmgaaDoorRows.lean that lists a variable, with what it lists TIED to the program's text (the seventh form; the later family's looks); each row that meets fmt, with fmt's text TOLD by the authors' own Lean function (tested against real Go, not proved from fmt's source: count such statements apart). THE CARD IS WHAT COUNTS. Prove the row's statement (the work); the ties are given (YtkihcigojhcmgaaDoorTie.lean); close each card by the builder's one call (the guide's Derived/Test/ToyasCard.lean, 'card_holds'). Laid BY PROGRAM, IN A SANDBOX (cutbox-door.mjs). By AI agents, Wed Nov 11 2026. No macro, syntax, notation, axiom, sorry.
-/
import Derived.Test.YtkihcigojhcmgaaDoorRows
import GoSem.ClaimSeven
namespace Go.Proofs.YtkihcigojhcmgaaDoor
namespace Rows

/-- THE TIED CARD OF 'evergreenlaw15.EvidenceMatchesReference'. -/
def evidenceMatchesReferenceCard : Claim7 := { stood := { row := evidenceMatchesReferenceRow, standIns := [], harness := (true, "82298c7a4c646b0564870919cdce0a8cbfac2fbaf853827cf77ee667b832bdee"), looks := false }, kinds := [], alts := [], laidByText := true, laidKinds := [.data], laidTests := true, laidLooks := .later }
def EvidenceMatchesReferenceCardSaid : Prop := Claim7.holds Tryd.pinned (.plain (OpenSpec.ofChange evidenceMatchesReferenceSpec)) evidenceMatchesReferenceCard

/-- THE TIED CARD OF 'evergreenlaw15.EvidenceKept'. -/
def evidenceKeptCard : Claim7 := { stood := { row := evidenceKeptRow, standIns := [], harness := (true, "82298c7a4c646b0564870919cdce0a8cbfac2fbaf853827cf77ee667b832bdee"), looks := false }, kinds := [], alts := [], laidByText := true, laidKinds := [.data], laidTests := true, laidLooks := .later }
def EvidenceKeptCardSaid : Prop := Claim7.holds Tryd.pinned (.plain (OpenSpec.ofChange evidenceKeptSpec)) evidenceKeptCard

/-- THE TIED CARD OF 'evergreenlaw15.EvidenceGap'. -/
def evidenceGapCard : Claim7 := { stood := { row := evidenceGapRow, standIns := [], harness := (true, "82298c7a4c646b0564870919cdce0a8cbfac2fbaf853827cf77ee667b832bdee"), looks := false }, kinds := [], alts := [], laidByText := true, laidKinds := [.data], laidTests := true, laidLooks := .later }
def EvidenceGapCardSaid : Prop := Claim7.holds Tryd.pinned (.plain (OpenSpec.ofChange evidenceGapSpec)) evidenceGapCard

/-- THE TIED CARD OF 'evergreenlaw15.EvidenceBound'. -/
def evidenceBoundCard : Claim7 := { stood := { row := evidenceBoundRow, standIns := [], harness := (true, "82298c7a4c646b0564870919cdce0a8cbfac2fbaf853827cf77ee667b832bdee"), looks := false }, kinds := [], alts := [], laidByText := true, laidKinds := [.data], laidTests := true, laidLooks := .later }
def EvidenceBoundCardSaid : Prop := Claim7.holds Tryd.pinned (.plain (OpenSpec.ofChange evidenceBoundSpec)) evidenceBoundCard

/-- THE TIED CARD OF 'evergreenlaw15.EvidenceKnown'. -/
def evidenceKnownCard : Claim7 := { stood := { row := evidenceKnownRow, standIns := [], harness := (true, "82298c7a4c646b0564870919cdce0a8cbfac2fbaf853827cf77ee667b832bdee"), looks := false }, kinds := [], alts := [], laidByText := true, laidKinds := [.data], laidTests := true, laidLooks := .later }
def EvidenceKnownCardSaid : Prop := Claim7.holds Tryd.pinned (.plain (OpenSpec.ofChange evidenceKnownSpec)) evidenceKnownCard

/-- THE TIED CARD OF 'evergreenlaw15.EvidenceDue'. -/
def evidenceDueCard : Claim7 := { stood := { row := evidenceDueRow, standIns := [], harness := (true, "82298c7a4c646b0564870919cdce0a8cbfac2fbaf853827cf77ee667b832bdee"), looks := false }, kinds := [], alts := [], laidByText := true, laidKinds := [.data], laidTests := true, laidLooks := .later }
def EvidenceDueCardSaid : Prop := Claim7.holds Tryd.pinned (.plain (OpenSpec.ofChange evidenceDueSpec)) evidenceDueCard

/-- THE TIED CARD OF 'evergreenlaw15.EvidenceRefuses'. -/
def evidenceRefusesCard : Claim7 := { stood := { row := evidenceRefusesRow, standIns := [], harness := (true, "82298c7a4c646b0564870919cdce0a8cbfac2fbaf853827cf77ee667b832bdee"), looks := false }, kinds := [], alts := [], laidByText := true, laidKinds := [.data], laidTests := true, laidLooks := .later }
def EvidenceRefusesCardSaid : Prop := Claim7.holds Tryd.pinned (.plain (OpenSpec.ofChange evidenceRefusesSpec)) evidenceRefusesCard

/-- THE SECOND FORM's CARD OF 'evergreenlaw15.EvidenceMatchesReference'. -/
def evidenceMatchesReferenceUptoCard : Claim7 := { stood := { row := evidenceMatchesReferenceUptoRow, standIns := [], harness := (true, "82298c7a4c646b0564870919cdce0a8cbfac2fbaf853827cf77ee667b832bdee"), looks := false }, kinds := [], alts := [], laidByText := true, laidKinds := [.data], laidTests := true, laidLooks := .later }
def EvidenceMatchesReferenceUptoCardSaid : Prop := Claim7.holds Tryd.pinned (.plain (OpenSpec.upto evidenceMatchesReferenceSpec)) evidenceMatchesReferenceUptoCard

/-- THE SECOND FORM's CARD OF 'evergreenlaw15.EvidenceKept'. -/
def evidenceKeptUptoCard : Claim7 := { stood := { row := evidenceKeptUptoRow, standIns := [], harness := (true, "82298c7a4c646b0564870919cdce0a8cbfac2fbaf853827cf77ee667b832bdee"), looks := false }, kinds := [], alts := [], laidByText := true, laidKinds := [.data], laidTests := true, laidLooks := .later }
def EvidenceKeptUptoCardSaid : Prop := Claim7.holds Tryd.pinned (.plain (OpenSpec.upto evidenceKeptSpec)) evidenceKeptUptoCard

/-- THE SECOND FORM's CARD OF 'evergreenlaw15.EvidenceGap'. -/
def evidenceGapUptoCard : Claim7 := { stood := { row := evidenceGapUptoRow, standIns := [], harness := (true, "82298c7a4c646b0564870919cdce0a8cbfac2fbaf853827cf77ee667b832bdee"), looks := false }, kinds := [], alts := [], laidByText := true, laidKinds := [.data], laidTests := true, laidLooks := .later }
def EvidenceGapUptoCardSaid : Prop := Claim7.holds Tryd.pinned (.plain (OpenSpec.upto evidenceGapSpec)) evidenceGapUptoCard

/-- THE SECOND FORM's CARD OF 'evergreenlaw15.EvidenceBound'. -/
def evidenceBoundUptoCard : Claim7 := { stood := { row := evidenceBoundUptoRow, standIns := [], harness := (true, "82298c7a4c646b0564870919cdce0a8cbfac2fbaf853827cf77ee667b832bdee"), looks := false }, kinds := [], alts := [], laidByText := true, laidKinds := [.data], laidTests := true, laidLooks := .later }
def EvidenceBoundUptoCardSaid : Prop := Claim7.holds Tryd.pinned (.plain (OpenSpec.upto evidenceBoundSpec)) evidenceBoundUptoCard

/-- THE SECOND FORM's CARD OF 'evergreenlaw15.EvidenceKnown'. -/
def evidenceKnownUptoCard : Claim7 := { stood := { row := evidenceKnownUptoRow, standIns := [], harness := (true, "82298c7a4c646b0564870919cdce0a8cbfac2fbaf853827cf77ee667b832bdee"), looks := false }, kinds := [], alts := [], laidByText := true, laidKinds := [.data], laidTests := true, laidLooks := .later }
def EvidenceKnownUptoCardSaid : Prop := Claim7.holds Tryd.pinned (.plain (OpenSpec.upto evidenceKnownSpec)) evidenceKnownUptoCard

/-- THE SECOND FORM's CARD OF 'evergreenlaw15.EvidenceDue'. -/
def evidenceDueUptoCard : Claim7 := { stood := { row := evidenceDueUptoRow, standIns := [], harness := (true, "82298c7a4c646b0564870919cdce0a8cbfac2fbaf853827cf77ee667b832bdee"), looks := false }, kinds := [], alts := [], laidByText := true, laidKinds := [.data], laidTests := true, laidLooks := .later }
def EvidenceDueUptoCardSaid : Prop := Claim7.holds Tryd.pinned (.plain (OpenSpec.upto evidenceDueSpec)) evidenceDueUptoCard

/-- THE SECOND FORM's CARD OF 'evergreenlaw15.EvidenceRefuses'. -/
def evidenceRefusesUptoCard : Claim7 := { stood := { row := evidenceRefusesUptoRow, standIns := [], harness := (true, "82298c7a4c646b0564870919cdce0a8cbfac2fbaf853827cf77ee667b832bdee"), looks := false }, kinds := [], alts := [], laidByText := true, laidKinds := [.data], laidTests := true, laidLooks := .later }
def EvidenceRefusesUptoCardSaid : Prop := Claim7.holds Tryd.pinned (.plain (OpenSpec.upto evidenceRefusesSpec)) evidenceRefusesUptoCard
end Rows
end Go.Proofs.YtkihcigojhcmgaaDoor
