/-
  DERIVED. GIVEN WITH THE SEED: THE CARDS: each row of YtphoflcilpopgaaGreatDoorRows.lean that lists a variable, with what it lists TIED to the program's text (the seventh form; the later family's looks); each row that meets fmt, with fmt's text TOLD by the authors' own Lean function (tested against real Go, not proved from fmt's source: count such statements apart). THE CARD IS WHAT COUNTS. Prove the row's statement (the work); the ties are given (YtphoflcilpopgaaGreatDoorTie.lean); close each card by the builder's one call (the guide's Derived/Test/ToyasCard.lean, 'card_holds'). Laid BY PROGRAM, IN A SANDBOX (cutbox-door.mjs). By AI agents, Wed Nov 11 2026. No macro, syntax, notation, axiom, sorry.
-/
import Derived.Test.YtphoflcilpopgaaGreatDoorRows
import GoSem.ClaimSeven
namespace Go.Proofs.YtphoflcilpopgaaGreatDoor
namespace Rows

/-- THE TIED CARD OF 'annalslaw20.NoteFresh'. -/
def noteFreshCard : Claim7 := { stood := { row := noteFreshRow, standIns := [], harness := (true, "1249438254b977c4c2e07d68bf1d2f2eb42b09922cff76a409c44d08957f4fc2"), looks := false }, kinds := [], alts := [], laidByText := true, laidKinds := [.data, .data, .data, .data, .data, .pinned], laidTests := true, laidLooks := .later }
def NoteFreshCardSaid : Prop := Claim7.holds Tryz.pinned (.plain (OpenSpec.ofChange noteFreshSpec)) noteFreshCard

/-- THE SECOND FORM's CARD OF 'annalslaw20.NoteFresh'. -/
def noteFreshUptoCard : Claim7 := { stood := { row := noteFreshUptoRow, standIns := [], harness := (true, "1249438254b977c4c2e07d68bf1d2f2eb42b09922cff76a409c44d08957f4fc2"), looks := false }, kinds := [], alts := [], laidByText := true, laidKinds := [.data, .data, .data, .data, .data, .pinned], laidTests := true, laidLooks := .later }
def NoteFreshUptoCardSaid : Prop := Claim7.holds Tryz.pinned (.plain (OpenSpec.upto noteFreshSpec)) noteFreshUptoCard
end Rows
end Go.Proofs.YtphoflcilpopgaaGreatDoor
