/-
  DERIVED. GIVEN WITH THE SEED: THE CARDS: each row of YtjliljlmgepmpaaGreatDoorRows.lean that lists a variable, with what it lists TIED to the program's text (the seventh form; the later family's looks); each row that meets fmt, with fmt's text TOLD by the authors' own Lean function (tested against real Go, not proved from fmt's source: count such statements apart). THE CARD IS WHAT COUNTS. Prove the row's statement (the work); the ties are given (YtjliljlmgepmpaaGreatDoorTie.lean); close each card by the builder's one call (the guide's Derived/Test/ToyasCard.lean, 'card_holds'). Laid BY PROGRAM, IN A SANDBOX (cutbox-door.mjs). By AI agents, Wed Nov 11 2026. No macro, syntax, notation, axiom, sorry.
-/
import Derived.Test.YtjliljlmgepmpaaGreatDoorRows
import GoSem.ClaimSeven
namespace Go.Proofs.YtjliljlmgepmpaaGreatDoor
namespace Rows

/-- THE TIED CARD OF 'acequialaw32.TreeTexts'. -/
def treeTextsCard : Claim7 := { stood := { row := treeTextsRow, standIns := [], harness := (true, "50984f50693e7be55a679a5055dc961fcea6e2acaf7be71725dacff2e38b2468"), looks := true }, kinds := [], alts := [], laidByText := true, laidKinds := [.data, .data, .data, .data, .sentinel, .sentinel, .pinned], laidTests := true, laidLooks := .later }
def TreeTextsCardSaid : Prop := Claim7.holds Tryz.pinned (.plain (OpenSpec.ofChange treeTextsSpec)) treeTextsCard

/-- THE TIED CARD OF 'acequialaw32.TreeTells'. -/
def treeTellsCard : Claim7 := { stood := { row := treeTellsRow, standIns := [], harness := (true, "50984f50693e7be55a679a5055dc961fcea6e2acaf7be71725dacff2e38b2468"), looks := true }, kinds := [], alts := [], laidByText := true, laidKinds := [.data, .data, .data, .data, .sentinel, .sentinel, .pinned], laidTests := true, laidLooks := .later }
def TreeTellsCardSaid : Prop := Claim7.holds Tryz.pinned (.plain (OpenSpec.ofChange treeTellsSpec)) treeTellsCard

/-- THE TIED CARD OF 'acequialaw32.TreeChanges'. -/
def treeChangesCard : Claim7 := { stood := { row := treeChangesRow, standIns := [], harness := (true, "50984f50693e7be55a679a5055dc961fcea6e2acaf7be71725dacff2e38b2468"), looks := true }, kinds := [], alts := [], laidByText := true, laidKinds := [.data, .data, .data, .data, .sentinel, .sentinel, .pinned], laidTests := true, laidLooks := .later }
def TreeChangesCardSaid : Prop := Claim7.holds Tryz.pinned (.plain (OpenSpec.ofChange treeChangesSpec)) treeChangesCard

/-- THE TIED CARD OF 'acequialaw32.TreeLong'. -/
def treeLongCard : Claim7 := { stood := { row := treeLongRow, standIns := [], harness := (true, "50984f50693e7be55a679a5055dc961fcea6e2acaf7be71725dacff2e38b2468"), looks := true }, kinds := [], alts := [], laidByText := true, laidKinds := [.data, .data, .data, .data, .sentinel, .sentinel, .pinned], laidTests := true, laidLooks := .later }
def TreeLongCardSaid : Prop := Claim7.holds Tryz.pinned (.plain (OpenSpec.ofChange treeLongSpec)) treeLongCard

/-- THE TIED CARD OF 'acequialaw32.TreeMakes'. -/
def treeMakesCard : Claim7 := { stood := { row := treeMakesRow, standIns := [], harness := (true, "50984f50693e7be55a679a5055dc961fcea6e2acaf7be71725dacff2e38b2468"), looks := true }, kinds := [], alts := [], laidByText := true, laidKinds := [.data, .data, .data, .data, .sentinel, .sentinel, .pinned], laidTests := true, laidLooks := .later }
def TreeMakesCardSaid : Prop := Claim7.holds Tryz.pinned (.plain (OpenSpec.ofChange treeMakesSpec)) treeMakesCard

/-- THE SECOND FORM's CARD OF 'acequialaw32.TreeTexts'. -/
def treeTextsUptoCard : Claim7 := { stood := { row := treeTextsUptoRow, standIns := [], harness := (true, "50984f50693e7be55a679a5055dc961fcea6e2acaf7be71725dacff2e38b2468"), looks := true }, kinds := [], alts := [], laidByText := true, laidKinds := [.data, .data, .data, .data, .sentinel, .sentinel, .pinned], laidTests := true, laidLooks := .later }
def TreeTextsUptoCardSaid : Prop := Claim7.holds Tryz.pinned (.plain (OpenSpec.upto treeTextsSpec)) treeTextsUptoCard

/-- THE SECOND FORM's CARD OF 'acequialaw32.TreeTells'. -/
def treeTellsUptoCard : Claim7 := { stood := { row := treeTellsUptoRow, standIns := [], harness := (true, "50984f50693e7be55a679a5055dc961fcea6e2acaf7be71725dacff2e38b2468"), looks := true }, kinds := [], alts := [], laidByText := true, laidKinds := [.data, .data, .data, .data, .sentinel, .sentinel, .pinned], laidTests := true, laidLooks := .later }
def TreeTellsUptoCardSaid : Prop := Claim7.holds Tryz.pinned (.plain (OpenSpec.upto treeTellsSpec)) treeTellsUptoCard

/-- THE SECOND FORM's CARD OF 'acequialaw32.TreeChanges'. -/
def treeChangesUptoCard : Claim7 := { stood := { row := treeChangesUptoRow, standIns := [], harness := (true, "50984f50693e7be55a679a5055dc961fcea6e2acaf7be71725dacff2e38b2468"), looks := true }, kinds := [], alts := [], laidByText := true, laidKinds := [.data, .data, .data, .data, .sentinel, .sentinel, .pinned], laidTests := true, laidLooks := .later }
def TreeChangesUptoCardSaid : Prop := Claim7.holds Tryz.pinned (.plain (OpenSpec.upto treeChangesSpec)) treeChangesUptoCard

/-- THE SECOND FORM's CARD OF 'acequialaw32.TreeLong'. -/
def treeLongUptoCard : Claim7 := { stood := { row := treeLongUptoRow, standIns := [], harness := (true, "50984f50693e7be55a679a5055dc961fcea6e2acaf7be71725dacff2e38b2468"), looks := true }, kinds := [], alts := [], laidByText := true, laidKinds := [.data, .data, .data, .data, .sentinel, .sentinel, .pinned], laidTests := true, laidLooks := .later }
def TreeLongUptoCardSaid : Prop := Claim7.holds Tryz.pinned (.plain (OpenSpec.upto treeLongSpec)) treeLongUptoCard

/-- THE SECOND FORM's CARD OF 'acequialaw32.TreeMakes'. -/
def treeMakesUptoCard : Claim7 := { stood := { row := treeMakesUptoRow, standIns := [], harness := (true, "50984f50693e7be55a679a5055dc961fcea6e2acaf7be71725dacff2e38b2468"), looks := true }, kinds := [], alts := [], laidByText := true, laidKinds := [.data, .data, .data, .data, .sentinel, .sentinel, .pinned], laidTests := true, laidLooks := .later }
def TreeMakesUptoCardSaid : Prop := Claim7.holds Tryz.pinned (.plain (OpenSpec.upto treeMakesSpec)) treeMakesUptoCard
end Rows
end Go.Proofs.YtjliljlmgepmpaaGreatDoor
