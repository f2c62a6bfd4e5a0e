/-
  DERIVED. GIVEN WITH THE SEED: THE CARDS: each row of YtkahboomahhdoaaDoorRows.lean that lists a variable, with what it lists TIED to the program's text (the seventh form; the later family's looks); each row that meets fmt, with fmt's text TOLD by the authors' own Lean function (tested against real Go, not proved from fmt's source: count such statements apart). THE CARD IS WHAT COUNTS. Prove the row's statement (the work); the ties are given (YtkahboomahhdoaaDoorTie.lean); close each card by the builder's one call (the guide's Derived/Test/ToyasCard.lean, 'card_holds'). Laid BY PROGRAM, IN A SANDBOX (cutbox-door.mjs). By AI agents, Wed Nov 11 2026. No macro, syntax, notation, axiom, sorry.
-/
import Derived.Test.YtkahboomahhdoaaDoorRows
import GoSem.ClaimSeven
namespace Go.Proofs.YtkahboomahhdoaaDoor
namespace Rows

/-- THE TIED CARD OF 'betrothallaw05.ValtextParses'. -/
def valtextParsesCard : Claim7 := { stood := { row := valtextParsesRow, standIns := [], harness := (true, "fe543ace488c118d9188ed2ce2a13a249997151b43a7ebdc52c5af1e0e4fb451"), looks := true }, kinds := [], alts := [], laidByText := true, laidKinds := [.data, .data, .data, .data], laidTests := true, laidLooks := .later }
def ValtextParsesCardSaid : Prop := Claim7.holds Tryd.pinned (.plain (OpenSpec.ofChange valtextParsesSpec)) valtextParsesCard

/-- THE TIED CARD OF 'betrothallaw05.ValtextLines'. -/
def valtextLinesCard : Claim7 := { stood := { row := valtextLinesRow, standIns := [], harness := (true, "fe543ace488c118d9188ed2ce2a13a249997151b43a7ebdc52c5af1e0e4fb451"), looks := true }, kinds := [], alts := [], laidByText := true, laidKinds := [.data, .data, .data, .data], laidTests := true, laidLooks := .later }
def ValtextLinesCardSaid : Prop := Claim7.holds Tryd.pinned (.plain (OpenSpec.ofChange valtextLinesSpec)) valtextLinesCard

/-- THE TIED CARD OF 'betrothallaw05.ValtextWords'. -/
def valtextWordsCard : Claim7 := { stood := { row := valtextWordsRow, standIns := [], harness := (true, "fe543ace488c118d9188ed2ce2a13a249997151b43a7ebdc52c5af1e0e4fb451"), looks := true }, kinds := [], alts := [], laidByText := true, laidKinds := [.data, .data, .data, .data], laidTests := true, laidLooks := .later }
def ValtextWordsCardSaid : Prop := Claim7.holds Tryd.pinned (.plain (OpenSpec.ofChange valtextWordsSpec)) valtextWordsCard

/-- THE TIED CARD OF 'betrothallaw05.ValtextTells'. -/
def valtextTellsCard : Claim7 := { stood := { row := valtextTellsRow, standIns := [], harness := (true, "fe543ace488c118d9188ed2ce2a13a249997151b43a7ebdc52c5af1e0e4fb451"), looks := true }, kinds := [], alts := [], laidByText := true, laidKinds := [.data, .data, .data, .data], laidTests := true, laidLooks := .later }
def ValtextTellsCardSaid : Prop := Claim7.holds Tryd.pinned (.plain (OpenSpec.ofChange valtextTellsSpec)) valtextTellsCard

/-- THE TIED CARD OF 'betrothallaw05.ValtextHolds'. -/
def valtextHoldsCard : Claim7 := { stood := { row := valtextHoldsRow, standIns := [], harness := (true, "fe543ace488c118d9188ed2ce2a13a249997151b43a7ebdc52c5af1e0e4fb451"), looks := true }, kinds := [], alts := [], laidByText := true, laidKinds := [.data, .data, .data, .data], laidTests := true, laidLooks := .later }
def ValtextHoldsCardSaid : Prop := Claim7.holds Tryd.pinned (.plain (OpenSpec.ofChange valtextHoldsSpec)) valtextHoldsCard

/-- THE TIED CARD OF 'betrothallaw05.ValtextDeep'. -/
def valtextDeepCard : Claim7 := { stood := { row := valtextDeepRow, standIns := [], harness := (true, "fe543ace488c118d9188ed2ce2a13a249997151b43a7ebdc52c5af1e0e4fb451"), looks := true }, kinds := [], alts := [], laidByText := true, laidKinds := [.data, .data, .data, .data], laidTests := true, laidLooks := .later }
def ValtextDeepCardSaid : Prop := Claim7.holds Tryd.pinned (.plain (OpenSpec.ofChange valtextDeepSpec)) valtextDeepCard

/-- THE SECOND FORM's CARD OF 'betrothallaw05.ValtextParses'. -/
def valtextParsesUptoCard : Claim7 := { stood := { row := valtextParsesUptoRow, standIns := [], harness := (true, "fe543ace488c118d9188ed2ce2a13a249997151b43a7ebdc52c5af1e0e4fb451"), looks := true }, kinds := [], alts := [], laidByText := true, laidKinds := [.data, .data, .data, .data], laidTests := true, laidLooks := .later }
def ValtextParsesUptoCardSaid : Prop := Claim7.holds Tryd.pinned (.plain (OpenSpec.upto valtextParsesSpec)) valtextParsesUptoCard

/-- THE SECOND FORM's CARD OF 'betrothallaw05.ValtextLines'. -/
def valtextLinesUptoCard : Claim7 := { stood := { row := valtextLinesUptoRow, standIns := [], harness := (true, "fe543ace488c118d9188ed2ce2a13a249997151b43a7ebdc52c5af1e0e4fb451"), looks := true }, kinds := [], alts := [], laidByText := true, laidKinds := [.data, .data, .data, .data], laidTests := true, laidLooks := .later }
def ValtextLinesUptoCardSaid : Prop := Claim7.holds Tryd.pinned (.plain (OpenSpec.upto valtextLinesSpec)) valtextLinesUptoCard

/-- THE SECOND FORM's CARD OF 'betrothallaw05.ValtextWords'. -/
def valtextWordsUptoCard : Claim7 := { stood := { row := valtextWordsUptoRow, standIns := [], harness := (true, "fe543ace488c118d9188ed2ce2a13a249997151b43a7ebdc52c5af1e0e4fb451"), looks := true }, kinds := [], alts := [], laidByText := true, laidKinds := [.data, .data, .data, .data], laidTests := true, laidLooks := .later }
def ValtextWordsUptoCardSaid : Prop := Claim7.holds Tryd.pinned (.plain (OpenSpec.upto valtextWordsSpec)) valtextWordsUptoCard

/-- THE SECOND FORM's CARD OF 'betrothallaw05.ValtextTells'. -/
def valtextTellsUptoCard : Claim7 := { stood := { row := valtextTellsUptoRow, standIns := [], harness := (true, "fe543ace488c118d9188ed2ce2a13a249997151b43a7ebdc52c5af1e0e4fb451"), looks := true }, kinds := [], alts := [], laidByText := true, laidKinds := [.data, .data, .data, .data], laidTests := true, laidLooks := .later }
def ValtextTellsUptoCardSaid : Prop := Claim7.holds Tryd.pinned (.plain (OpenSpec.upto valtextTellsSpec)) valtextTellsUptoCard

/-- THE SECOND FORM's CARD OF 'betrothallaw05.ValtextHolds'. -/
def valtextHoldsUptoCard : Claim7 := { stood := { row := valtextHoldsUptoRow, standIns := [], harness := (true, "fe543ace488c118d9188ed2ce2a13a249997151b43a7ebdc52c5af1e0e4fb451"), looks := true }, kinds := [], alts := [], laidByText := true, laidKinds := [.data, .data, .data, .data], laidTests := true, laidLooks := .later }
def ValtextHoldsUptoCardSaid : Prop := Claim7.holds Tryd.pinned (.plain (OpenSpec.upto valtextHoldsSpec)) valtextHoldsUptoCard

/-- THE SECOND FORM's CARD OF 'betrothallaw05.ValtextDeep'. -/
def valtextDeepUptoCard : Claim7 := { stood := { row := valtextDeepUptoRow, standIns := [], harness := (true, "fe543ace488c118d9188ed2ce2a13a249997151b43a7ebdc52c5af1e0e4fb451"), looks := true }, kinds := [], alts := [], laidByText := true, laidKinds := [.data, .data, .data, .data], laidTests := true, laidLooks := .later }
def ValtextDeepUptoCardSaid : Prop := Claim7.holds Tryd.pinned (.plain (OpenSpec.upto valtextDeepSpec)) valtextDeepUptoCard
end Rows
end Go.Proofs.YtkahboomahhdoaaDoor
