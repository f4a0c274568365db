/-
  DERIVED. GIVEN WITH THE SEED: THE CARDS: each row of YtlhcpndehikneaaGreatDoorRows.lean that lists a variable, with what it lists TIED to the program's text (the seventh form; the later family's looks); each row that meets fmt, with fmt's text TOLD by the authors' own Lean function (tested against real Go, not proved from fmt's source: count such statements apart). THE CARD IS WHAT COUNTS. Prove the row's statement (the work); the ties are given (YtlhcpndehikneaaGreatDoorTie.lean); close each card by the builder's one call (the guide's Derived/Test/ToyasCard.lean, 'card_holds'). Laid BY PROGRAM, IN A SANDBOX (cutbox-door.mjs). By AI agents, Wed Nov 11 2026. No macro, syntax, notation, axiom, sorry.
-/
import Derived.Test.YtlhcpndehikneaaGreatDoorRows
import GoSem.ClaimSeven
namespace Go.Proofs.YtlhcpndehikneaaGreatDoor
namespace Rows

/-- THE TIED CARD OF 'acequialaw11.SrcsTexts'. -/
def srcsTextsCard : Claim7 := { stood := { row := srcsTextsRow, standIns := [], harness := (true, "7bafc2f122e0b28ecac0343120c1937d048acdb0b074dccbe946c96afa83cf9c"), looks := true }, kinds := [], alts := [], laidByText := true, laidKinds := [.data, .data, .data, .data, .sentinel, .sentinel, .pinned], laidTests := true, laidLooks := .later }
def SrcsTextsCardSaid : Prop := Claim7.holds Tryz.pinned (.plain (OpenSpec.ofChange srcsTextsSpec)) srcsTextsCard

/-- THE TIED CARD OF 'acequialaw19.MergeTexts'. -/
def mergeTextsCard : Claim7 := { stood := { row := mergeTextsRow, standIns := [], harness := (true, "7bafc2f122e0b28ecac0343120c1937d048acdb0b074dccbe946c96afa83cf9c"), looks := true }, kinds := [], alts := [], laidByText := true, laidKinds := [.data, .data, .data, .data, .sentinel, .sentinel, .pinned], laidTests := true, laidLooks := .later }
def MergeTextsCardSaid : Prop := Claim7.holds Tryz.pinned (.plain (OpenSpec.ofChange mergeTextsSpec)) mergeTextsCard

/-- THE SECOND FORM's CARD OF 'acequialaw11.SrcsTexts'. -/
def srcsTextsUptoCard : Claim7 := { stood := { row := srcsTextsUptoRow, standIns := [], harness := (true, "7bafc2f122e0b28ecac0343120c1937d048acdb0b074dccbe946c96afa83cf9c"), looks := true }, kinds := [], alts := [], laidByText := true, laidKinds := [.data, .data, .data, .data, .sentinel, .sentinel, .pinned], laidTests := true, laidLooks := .later }
def SrcsTextsUptoCardSaid : Prop := Claim7.holds Tryz.pinned (.plain (OpenSpec.upto srcsTextsSpec)) srcsTextsUptoCard

/-- THE SECOND FORM's CARD OF 'acequialaw19.MergeTexts'. -/
def mergeTextsUptoCard : Claim7 := { stood := { row := mergeTextsUptoRow, standIns := [], harness := (true, "7bafc2f122e0b28ecac0343120c1937d048acdb0b074dccbe946c96afa83cf9c"), looks := true }, kinds := [], alts := [], laidByText := true, laidKinds := [.data, .data, .data, .data, .sentinel, .sentinel, .pinned], laidTests := true, laidLooks := .later }
def MergeTextsUptoCardSaid : Prop := Claim7.holds Tryz.pinned (.plain (OpenSpec.upto mergeTextsSpec)) mergeTextsUptoCard
end Rows
end Go.Proofs.YtlhcpndehikneaaGreatDoor
