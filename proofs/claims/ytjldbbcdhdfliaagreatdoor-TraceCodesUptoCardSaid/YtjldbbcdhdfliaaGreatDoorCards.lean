/-
  DERIVED. GIVEN WITH THE SEED: THE CARDS: each row of YtjldbbcdhdfliaaGreatDoorRows.lean that lists a variable, with what it lists TIED to the program's text (the seventh form; the later family's looks); each row that meets fmt, with fmt's text TOLD by the authors' own Lean function (tested against real Go, not proved from fmt's source: count such statements apart). THE CARD IS WHAT COUNTS. Prove the row's statement (the work); the ties are given (YtjldbbcdhdfliaaGreatDoorTie.lean); close each card by the builder's one call (the guide's Derived/Test/ToyasCard.lean, 'card_holds'). Laid BY PROGRAM, IN A SANDBOX (cutbox-door.mjs). By AI agents, Wed Nov 11 2026. No macro, syntax, notation, axiom, sorry.
-/
import Derived.Test.YtjldbbcdhdfliaaGreatDoorRows
import GoSem.ClaimSeven
namespace Go.Proofs.YtjldbbcdhdfliaaGreatDoor
namespace Rows

/-- THE TIED CARD OF 'betrothallaw23.TraceParses'. -/
def traceParsesCard : Claim7 := { stood := { row := traceParsesRow, standIns := [], harness := (true, "17996a3681b211a081560fa46a050c5e14b57999f05283215fa9bd82c0e9071d"), looks := true }, kinds := [], alts := [], laidByText := true, laidKinds := [.data, .data, .data, .data, .sentinel, .sentinel, .data, .pinned], laidTests := true, laidLooks := .later }
def TraceParsesCardSaid : Prop := Claim7.holds Tryz.pinned (.plain (OpenSpec.ofChange traceParsesSpec)) traceParsesCard

/-- THE TIED CARD OF 'betrothallaw23.TraceChecks'. -/
def traceChecksCard : Claim7 := { stood := { row := traceChecksRow, standIns := [], harness := (true, "17996a3681b211a081560fa46a050c5e14b57999f05283215fa9bd82c0e9071d"), looks := true }, kinds := [], alts := [], laidByText := true, laidKinds := [.data, .data, .data, .data, .sentinel, .sentinel, .data, .pinned], laidTests := true, laidLooks := .later }
def TraceChecksCardSaid : Prop := Claim7.holds Tryz.pinned (.plain (OpenSpec.ofChange traceChecksSpec)) traceChecksCard

/-- THE TIED CARD OF 'betrothallaw23.TraceReads'. -/
def traceReadsCard : Claim7 := { stood := { row := traceReadsRow, standIns := [], harness := (true, "17996a3681b211a081560fa46a050c5e14b57999f05283215fa9bd82c0e9071d"), looks := true }, kinds := [], alts := [], laidByText := true, laidKinds := [.data, .data, .data, .data, .sentinel, .sentinel, .data, .pinned], laidTests := true, laidLooks := .later }
def TraceReadsCardSaid : Prop := Claim7.holds Tryz.pinned (.plain (OpenSpec.ofChange traceReadsSpec)) traceReadsCard

/-- THE TIED CARD OF 'betrothallaw23.TraceCodes'. -/
def traceCodesCard : Claim7 := { stood := { row := traceCodesRow, standIns := [], harness := (true, "17996a3681b211a081560fa46a050c5e14b57999f05283215fa9bd82c0e9071d"), looks := true }, kinds := [], alts := [], laidByText := true, laidKinds := [.data, .data, .data, .data, .sentinel, .sentinel, .data, .pinned], laidTests := true, laidLooks := .later }
def TraceCodesCardSaid : Prop := Claim7.holds Tryz.pinned (.plain (OpenSpec.ofChange traceCodesSpec)) traceCodesCard

/-- THE TIED CARD OF 'betrothallaw23.TraceHolds'. -/
def traceHoldsCard : Claim7 := { stood := { row := traceHoldsRow, standIns := [], harness := (true, "17996a3681b211a081560fa46a050c5e14b57999f05283215fa9bd82c0e9071d"), looks := true }, kinds := [], alts := [], laidByText := true, laidKinds := [.data, .data, .data, .data, .sentinel, .sentinel, .data, .pinned], laidTests := true, laidLooks := .later }
def TraceHoldsCardSaid : Prop := Claim7.holds Tryz.pinned (.plain (OpenSpec.ofChange traceHoldsSpec)) traceHoldsCard

/-- THE SECOND FORM's CARD OF 'betrothallaw23.TraceParses'. -/
def traceParsesUptoCard : Claim7 := { stood := { row := traceParsesUptoRow, standIns := [], harness := (true, "17996a3681b211a081560fa46a050c5e14b57999f05283215fa9bd82c0e9071d"), looks := true }, kinds := [], alts := [], laidByText := true, laidKinds := [.data, .data, .data, .data, .sentinel, .sentinel, .data, .pinned], laidTests := true, laidLooks := .later }
def TraceParsesUptoCardSaid : Prop := Claim7.holds Tryz.pinned (.plain (OpenSpec.upto traceParsesSpec)) traceParsesUptoCard

/-- THE SECOND FORM's CARD OF 'betrothallaw23.TraceChecks'. -/
def traceChecksUptoCard : Claim7 := { stood := { row := traceChecksUptoRow, standIns := [], harness := (true, "17996a3681b211a081560fa46a050c5e14b57999f05283215fa9bd82c0e9071d"), looks := true }, kinds := [], alts := [], laidByText := true, laidKinds := [.data, .data, .data, .data, .sentinel, .sentinel, .data, .pinned], laidTests := true, laidLooks := .later }
def TraceChecksUptoCardSaid : Prop := Claim7.holds Tryz.pinned (.plain (OpenSpec.upto traceChecksSpec)) traceChecksUptoCard

/-- THE SECOND FORM's CARD OF 'betrothallaw23.TraceReads'. -/
def traceReadsUptoCard : Claim7 := { stood := { row := traceReadsUptoRow, standIns := [], harness := (true, "17996a3681b211a081560fa46a050c5e14b57999f05283215fa9bd82c0e9071d"), looks := true }, kinds := [], alts := [], laidByText := true, laidKinds := [.data, .data, .data, .data, .sentinel, .sentinel, .data, .pinned], laidTests := true, laidLooks := .later }
def TraceReadsUptoCardSaid : Prop := Claim7.holds Tryz.pinned (.plain (OpenSpec.upto traceReadsSpec)) traceReadsUptoCard

/-- THE SECOND FORM's CARD OF 'betrothallaw23.TraceCodes'. -/
def traceCodesUptoCard : Claim7 := { stood := { row := traceCodesUptoRow, standIns := [], harness := (true, "17996a3681b211a081560fa46a050c5e14b57999f05283215fa9bd82c0e9071d"), looks := true }, kinds := [], alts := [], laidByText := true, laidKinds := [.data, .data, .data, .data, .sentinel, .sentinel, .data, .pinned], laidTests := true, laidLooks := .later }
def TraceCodesUptoCardSaid : Prop := Claim7.holds Tryz.pinned (.plain (OpenSpec.upto traceCodesSpec)) traceCodesUptoCard

/-- THE SECOND FORM's CARD OF 'betrothallaw23.TraceHolds'. -/
def traceHoldsUptoCard : Claim7 := { stood := { row := traceHoldsUptoRow, standIns := [], harness := (true, "17996a3681b211a081560fa46a050c5e14b57999f05283215fa9bd82c0e9071d"), looks := true }, kinds := [], alts := [], laidByText := true, laidKinds := [.data, .data, .data, .data, .sentinel, .sentinel, .data, .pinned], laidTests := true, laidLooks := .later }
def TraceHoldsUptoCardSaid : Prop := Claim7.holds Tryz.pinned (.plain (OpenSpec.upto traceHoldsSpec)) traceHoldsUptoCard
end Rows
end Go.Proofs.YtjldbbcdhdfliaaGreatDoor
