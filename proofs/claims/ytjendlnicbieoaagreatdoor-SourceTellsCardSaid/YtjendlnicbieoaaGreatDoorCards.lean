/-
  DERIVED. GIVEN WITH THE SEED: THE CARDS: each row of YtjendlnicbieoaaGreatDoorRows.lean that lists a variable, with what it lists TIED to the program's text (the seventh form; the later family's looks); each row that meets fmt, with fmt's text TOLD by the authors' own Lean function (tested against real Go, not proved from fmt's source: count such statements apart). THE CARD IS WHAT COUNTS. Prove the row's statement (the work); the ties are given (YtjendlnicbieoaaGreatDoorTie.lean); close each card by the builder's one call (the guide's Derived/Test/ToyasCard.lean, 'card_holds'). Laid BY PROGRAM, IN A SANDBOX (cutbox-door.mjs). By AI agents, Wed Nov 11 2026. No macro, syntax, notation, axiom, sorry.
-/
import Derived.Test.YtjendlnicbieoaaGreatDoorRows
import GoSem.ClaimSeven
namespace Go.Proofs.YtjendlnicbieoaaGreatDoor
namespace Rows

/-- THE TIED CARD OF 'betrothallaw09.SourceTells'. -/
def sourceTellsCard : Claim7 := { stood := { row := sourceTellsRow, standIns := [], harness := (true, "6fb726773c48eaf23c8ed9621d280b6871d4ca8e2321703b1a33c38bd81d9fb6"), looks := true }, kinds := [], alts := [], laidByText := true, laidKinds := [.data, .data, .data, .sentinel, .sentinel], laidTests := true, laidLooks := .later }
def SourceTellsCardSaid : Prop := Claim7.holds Tryz.pinned (.plain (OpenSpec.ofChange sourceTellsSpec)) sourceTellsCard

/-- THE TIED CARD OF 'betrothallaw09.SourceHolds'. -/
def sourceHoldsCard : Claim7 := { stood := { row := sourceHoldsRow, standIns := [], harness := (true, "6fb726773c48eaf23c8ed9621d280b6871d4ca8e2321703b1a33c38bd81d9fb6"), looks := true }, kinds := [], alts := [], laidByText := true, laidKinds := [.data, .data, .data, .sentinel, .sentinel], laidTests := true, laidLooks := .later }
def SourceHoldsCardSaid : Prop := Claim7.holds Tryz.pinned (.plain (OpenSpec.ofChange sourceHoldsSpec)) sourceHoldsCard

/-- THE TIED CARD OF 'betrothallaw09.SourceMany'. -/
def sourceManyCard : Claim7 := { stood := { row := sourceManyRow, standIns := [], harness := (true, "6fb726773c48eaf23c8ed9621d280b6871d4ca8e2321703b1a33c38bd81d9fb6"), looks := true }, kinds := [], alts := [], laidByText := true, laidKinds := [.data, .data, .data, .sentinel, .sentinel], laidTests := true, laidLooks := .later }
def SourceManyCardSaid : Prop := Claim7.holds Tryz.pinned (.plain (OpenSpec.ofChange sourceManySpec)) sourceManyCard

/-- THE TIED CARD OF 'betrothallaw09.SourceBounds'. -/
def sourceBoundsCard : Claim7 := { stood := { row := sourceBoundsRow, standIns := [], harness := (true, "6fb726773c48eaf23c8ed9621d280b6871d4ca8e2321703b1a33c38bd81d9fb6"), looks := true }, kinds := [], alts := [], laidByText := true, laidKinds := [.data, .data, .data, .sentinel, .sentinel], laidTests := true, laidLooks := .later }
def SourceBoundsCardSaid : Prop := Claim7.holds Tryz.pinned (.plain (OpenSpec.ofChange sourceBoundsSpec)) sourceBoundsCard

/-- THE SECOND FORM's CARD OF 'betrothallaw09.SourceTells'. -/
def sourceTellsUptoCard : Claim7 := { stood := { row := sourceTellsUptoRow, standIns := [], harness := (true, "6fb726773c48eaf23c8ed9621d280b6871d4ca8e2321703b1a33c38bd81d9fb6"), looks := true }, kinds := [], alts := [], laidByText := true, laidKinds := [.data, .data, .data, .sentinel, .sentinel], laidTests := true, laidLooks := .later }
def SourceTellsUptoCardSaid : Prop := Claim7.holds Tryz.pinned (.plain (OpenSpec.upto sourceTellsSpec)) sourceTellsUptoCard

/-- THE SECOND FORM's CARD OF 'betrothallaw09.SourceHolds'. -/
def sourceHoldsUptoCard : Claim7 := { stood := { row := sourceHoldsUptoRow, standIns := [], harness := (true, "6fb726773c48eaf23c8ed9621d280b6871d4ca8e2321703b1a33c38bd81d9fb6"), looks := true }, kinds := [], alts := [], laidByText := true, laidKinds := [.data, .data, .data, .sentinel, .sentinel], laidTests := true, laidLooks := .later }
def SourceHoldsUptoCardSaid : Prop := Claim7.holds Tryz.pinned (.plain (OpenSpec.upto sourceHoldsSpec)) sourceHoldsUptoCard

/-- THE SECOND FORM's CARD OF 'betrothallaw09.SourceMany'. -/
def sourceManyUptoCard : Claim7 := { stood := { row := sourceManyUptoRow, standIns := [], harness := (true, "6fb726773c48eaf23c8ed9621d280b6871d4ca8e2321703b1a33c38bd81d9fb6"), looks := true }, kinds := [], alts := [], laidByText := true, laidKinds := [.data, .data, .data, .sentinel, .sentinel], laidTests := true, laidLooks := .later }
def SourceManyUptoCardSaid : Prop := Claim7.holds Tryz.pinned (.plain (OpenSpec.upto sourceManySpec)) sourceManyUptoCard

/-- THE SECOND FORM's CARD OF 'betrothallaw09.SourceBounds'. -/
def sourceBoundsUptoCard : Claim7 := { stood := { row := sourceBoundsUptoRow, standIns := [], harness := (true, "6fb726773c48eaf23c8ed9621d280b6871d4ca8e2321703b1a33c38bd81d9fb6"), looks := true }, kinds := [], alts := [], laidByText := true, laidKinds := [.data, .data, .data, .sentinel, .sentinel], laidTests := true, laidLooks := .later }
def SourceBoundsUptoCardSaid : Prop := Claim7.holds Tryz.pinned (.plain (OpenSpec.upto sourceBoundsSpec)) sourceBoundsUptoCard
end Rows
end Go.Proofs.YtjendlnicbieoaaGreatDoor
