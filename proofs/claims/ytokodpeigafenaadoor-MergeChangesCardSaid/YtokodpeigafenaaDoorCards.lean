/-
  DERIVED. GIVEN WITH THE SEED: THE CARDS: each row of YtokodpeigafenaaDoorRows.lean that lists a variable, with what it lists TIED to the program's text (the seventh form; the later family's looks); each row that meets fmt, with fmt's text TOLD by the authors' own Lean function (tested against real Go, not proved from fmt's source: count such statements apart). THE CARD IS WHAT COUNTS. Prove the row's statement (the work); the ties are given (YtokodpeigafenaaDoorTie.lean); close each card by the builder's one call (the guide's Derived/Test/ToyasCard.lean, 'card_holds'). Laid BY PROGRAM, IN A SANDBOX (cutbox-door.mjs). By AI agents, Wed Nov 11 2026. No macro, syntax, notation, axiom, sorry.
-/
import Derived.Test.YtokodpeigafenaaDoorRows
import GoSem.ClaimSeven
namespace Go.Proofs.YtokodpeigafenaaDoor
namespace Rows

/-- THE TIED CARD OF 'acequialaw19.MergeChanges'. -/
def mergeChangesCard : Claim7 := { stood := { row := mergeChangesRow, standIns := [], harness := (true, "5014a6b77b8499d5bbe7f77057726b22189ad6f59324b89241ff0729a2ed9100"), looks := false }, kinds := [], alts := [], laidByText := true, laidKinds := [.data, .data, .data], laidTests := true, laidLooks := .later }
def MergeChangesCardSaid : Prop := Claim7.holds Tryd.pinned (.plain (OpenSpec.ofChange mergeChangesSpec)) mergeChangesCard

/-- THE TIED CARD OF 'acequialaw19.MergeAll'. -/
def mergeAllCard : Claim7 := { stood := { row := mergeAllRow, standIns := [], harness := (true, "5014a6b77b8499d5bbe7f77057726b22189ad6f59324b89241ff0729a2ed9100"), looks := false }, kinds := [], alts := [], laidByText := true, laidKinds := [.data, .data, .data], laidTests := true, laidLooks := .later }
def MergeAllCardSaid : Prop := Claim7.holds Tryd.pinned (.plain (OpenSpec.ofChange mergeAllSpec)) mergeAllCard

/-- THE TIED CARD OF 'acequialaw19.MergeStates'. -/
def mergeStatesCard : Claim7 := { stood := { row := mergeStatesRow, standIns := [], harness := (true, "5014a6b77b8499d5bbe7f77057726b22189ad6f59324b89241ff0729a2ed9100"), looks := false }, kinds := [], alts := [], laidByText := true, laidKinds := [.data, .data, .data], laidTests := true, laidLooks := .later }
def MergeStatesCardSaid : Prop := Claim7.holds Tryd.pinned (.plain (OpenSpec.ofChange mergeStatesSpec)) mergeStatesCard

/-- THE TIED CARD OF 'acequialaw19.MergeOne'. -/
def mergeOneCard : Claim7 := { stood := { row := mergeOneRow, standIns := [], harness := (true, "5014a6b77b8499d5bbe7f77057726b22189ad6f59324b89241ff0729a2ed9100"), looks := false }, kinds := [], alts := [], laidByText := true, laidKinds := [.data, .data, .data], laidTests := true, laidLooks := .later }
def MergeOneCardSaid : Prop := Claim7.holds Tryd.pinned (.plain (OpenSpec.ofChange mergeOneSpec)) mergeOneCard

/-- THE TIED CARD OF 'acequialaw11.SrcsMakes'. -/
def srcsMakesCard : Claim7 := { stood := { row := srcsMakesRow, standIns := [], harness := (true, "5014a6b77b8499d5bbe7f77057726b22189ad6f59324b89241ff0729a2ed9100"), looks := false }, kinds := [], alts := [], laidByText := true, laidKinds := [.data, .data, .data], laidTests := true, laidLooks := .later }
def SrcsMakesCardSaid : Prop := Claim7.holds Tryd.pinned (.plain (OpenSpec.ofChange srcsMakesSpec)) srcsMakesCard

/-- THE TIED CARD OF 'acequialaw11.SrcsPairs'. -/
def srcsPairsCard : Claim7 := { stood := { row := srcsPairsRow, standIns := [], harness := (true, "5014a6b77b8499d5bbe7f77057726b22189ad6f59324b89241ff0729a2ed9100"), looks := false }, kinds := [], alts := [], laidByText := true, laidKinds := [.data, .data, .data], laidTests := true, laidLooks := .later }
def SrcsPairsCardSaid : Prop := Claim7.holds Tryd.pinned (.plain (OpenSpec.ofChange srcsPairsSpec)) srcsPairsCard

/-- THE SECOND FORM's CARD OF 'acequialaw19.MergeChanges'. -/
def mergeChangesUptoCard : Claim7 := { stood := { row := mergeChangesUptoRow, standIns := [], harness := (true, "5014a6b77b8499d5bbe7f77057726b22189ad6f59324b89241ff0729a2ed9100"), looks := false }, kinds := [], alts := [], laidByText := true, laidKinds := [.data, .data, .data], laidTests := true, laidLooks := .later }
def MergeChangesUptoCardSaid : Prop := Claim7.holds Tryd.pinned (.plain (OpenSpec.upto mergeChangesSpec)) mergeChangesUptoCard

/-- THE SECOND FORM's CARD OF 'acequialaw19.MergeAll'. -/
def mergeAllUptoCard : Claim7 := { stood := { row := mergeAllUptoRow, standIns := [], harness := (true, "5014a6b77b8499d5bbe7f77057726b22189ad6f59324b89241ff0729a2ed9100"), looks := false }, kinds := [], alts := [], laidByText := true, laidKinds := [.data, .data, .data], laidTests := true, laidLooks := .later }
def MergeAllUptoCardSaid : Prop := Claim7.holds Tryd.pinned (.plain (OpenSpec.upto mergeAllSpec)) mergeAllUptoCard

/-- THE SECOND FORM's CARD OF 'acequialaw19.MergeStates'. -/
def mergeStatesUptoCard : Claim7 := { stood := { row := mergeStatesUptoRow, standIns := [], harness := (true, "5014a6b77b8499d5bbe7f77057726b22189ad6f59324b89241ff0729a2ed9100"), looks := false }, kinds := [], alts := [], laidByText := true, laidKinds := [.data, .data, .data], laidTests := true, laidLooks := .later }
def MergeStatesUptoCardSaid : Prop := Claim7.holds Tryd.pinned (.plain (OpenSpec.upto mergeStatesSpec)) mergeStatesUptoCard

/-- THE SECOND FORM's CARD OF 'acequialaw19.MergeOne'. -/
def mergeOneUptoCard : Claim7 := { stood := { row := mergeOneUptoRow, standIns := [], harness := (true, "5014a6b77b8499d5bbe7f77057726b22189ad6f59324b89241ff0729a2ed9100"), looks := false }, kinds := [], alts := [], laidByText := true, laidKinds := [.data, .data, .data], laidTests := true, laidLooks := .later }
def MergeOneUptoCardSaid : Prop := Claim7.holds Tryd.pinned (.plain (OpenSpec.upto mergeOneSpec)) mergeOneUptoCard

/-- THE SECOND FORM's CARD OF 'acequialaw11.SrcsMakes'. -/
def srcsMakesUptoCard : Claim7 := { stood := { row := srcsMakesUptoRow, standIns := [], harness := (true, "5014a6b77b8499d5bbe7f77057726b22189ad6f59324b89241ff0729a2ed9100"), looks := false }, kinds := [], alts := [], laidByText := true, laidKinds := [.data, .data, .data], laidTests := true, laidLooks := .later }
def SrcsMakesUptoCardSaid : Prop := Claim7.holds Tryd.pinned (.plain (OpenSpec.upto srcsMakesSpec)) srcsMakesUptoCard

/-- THE SECOND FORM's CARD OF 'acequialaw11.SrcsPairs'. -/
def srcsPairsUptoCard : Claim7 := { stood := { row := srcsPairsUptoRow, standIns := [], harness := (true, "5014a6b77b8499d5bbe7f77057726b22189ad6f59324b89241ff0729a2ed9100"), looks := false }, kinds := [], alts := [], laidByText := true, laidKinds := [.data, .data, .data], laidTests := true, laidLooks := .later }
def SrcsPairsUptoCardSaid : Prop := Claim7.holds Tryd.pinned (.plain (OpenSpec.upto srcsPairsSpec)) srcsPairsUptoCard
end Rows
end Go.Proofs.YtokodpeigafenaaDoor
