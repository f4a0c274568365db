/-
  DERIVED. GIVEN WITH THE SEED: THE CARDS: each row of YtamiodnbinhmhaaGreatDoorRows.lean that lists a variable, with what it lists TIED to the program's text (the seventh form; the later family's looks); each row that meets fmt, with fmt's text TOLD by the authors' own Lean function (tested against real Go, not proved from fmt's source: count such statements apart). THE CARD IS WHAT COUNTS. Prove the row's statement (the work); the ties are given (YtamiodnbinhmhaaGreatDoorTie.lean); close each card by the builder's one call (the guide's Derived/Test/ToyasCard.lean, 'card_holds'). Laid BY PROGRAM, IN A SANDBOX (cutbox-door.mjs). By AI agents, Wed Nov 11 2026. No macro, syntax, notation, axiom, sorry.
-/
import Derived.Test.YtamiodnbinhmhaaGreatDoorRows
import GoSem.ClaimSeven
namespace Go.Proofs.YtamiodnbinhmhaaGreatDoor
namespace Rows

/-- THE TIED CARD OF 'acequialaw03.AddrTells'. -/
def addrTellsCard : Claim7 := { stood := { row := addrTellsRow, standIns := [], harness := (true, "c97012b6e15287aa0715e7ec8691db7fb3851ae9b1addb1b00f7dd1a9f37f845"), looks := true }, kinds := [], alts := [], laidByText := true, laidKinds := [.data, .data, .data, .data, .sentinel, .sentinel, .pinned], laidTests := true, laidLooks := .later }
def AddrTellsCardSaid : Prop := Claim7.holds Tryz.pinned (.plain (OpenSpec.ofChange addrTellsSpec)) addrTellsCard

/-- THE SECOND FORM's CARD OF 'acequialaw03.AddrTells'. -/
def addrTellsUptoCard : Claim7 := { stood := { row := addrTellsUptoRow, standIns := [], harness := (true, "c97012b6e15287aa0715e7ec8691db7fb3851ae9b1addb1b00f7dd1a9f37f845"), looks := true }, kinds := [], alts := [], laidByText := true, laidKinds := [.data, .data, .data, .data, .sentinel, .sentinel, .pinned], laidTests := true, laidLooks := .later }
def AddrTellsUptoCardSaid : Prop := Claim7.holds Tryz.pinned (.plain (OpenSpec.upto addrTellsSpec)) addrTellsUptoCard
end Rows
end Go.Proofs.YtamiodnbinhmhaaGreatDoor
