/-
  DERIVED. GIVEN WITH THE SEED: THE CARDS: each row of YtnkioabdpploeaaGreatDoorRows.lean that lists a variable, with what it lists TIED to the program's text (the seventh form; the later family's looks); each row that meets fmt, with fmt's text TOLD by the authors' own Lean function (tested against real Go, not proved from fmt's source: count such statements apart). THE CARD IS WHAT COUNTS. Prove the row's statement (the work); the ties are given (YtnkioabdpploeaaGreatDoorTie.lean); close each card by the builder's one call (the guide's Derived/Test/ToyasCard.lean, 'card_holds'). Laid BY PROGRAM, IN A SANDBOX (cutbox-door.mjs). By AI agents, Wed Nov 11 2026. No macro, syntax, notation, axiom, sorry.
-/
import Derived.Test.YtnkioabdpploeaaGreatDoorRows
import GoSem.ClaimSeven
namespace Go.Proofs.YtnkioabdpploeaaGreatDoor
namespace Rows

/-- THE TIED CARD OF 'annalslaw27.FrontAsk'. -/
def frontAskCard : Claim7 := { stood := { row := frontAskRow, standIns := [], harness := (true, "5c910e53875fe9868adb2bc92caa82feb5eb2cd3705237b66a1d977a7904de03"), looks := true }, kinds := [], alts := [], laidByText := true, laidKinds := [.data, .data, .data, .data, .data, .data, .sentinel, .sentinel, .pinned], laidTests := true, laidLooks := .later }
def FrontAskCardSaid : Prop := Claim7.holds Tryz.pinned (.plain (OpenSpec.ofChange frontAskSpec)) frontAskCard

/-- THE TIED CARD OF 'annalslaw27.FrontLines'. -/
def frontLinesCard : Claim7 := { stood := { row := frontLinesRow, standIns := [], harness := (true, "5c910e53875fe9868adb2bc92caa82feb5eb2cd3705237b66a1d977a7904de03"), looks := true }, kinds := [], alts := [], laidByText := true, laidKinds := [.data, .data, .data, .data, .data, .data, .sentinel, .sentinel, .pinned], laidTests := true, laidLooks := .later }
def FrontLinesCardSaid : Prop := Claim7.holds Tryz.pinned (.plain (OpenSpec.ofChange frontLinesSpec)) frontLinesCard

/-- THE SECOND FORM's CARD OF 'annalslaw27.FrontAsk'. -/
def frontAskUptoCard : Claim7 := { stood := { row := frontAskUptoRow, standIns := [], harness := (true, "5c910e53875fe9868adb2bc92caa82feb5eb2cd3705237b66a1d977a7904de03"), looks := true }, kinds := [], alts := [], laidByText := true, laidKinds := [.data, .data, .data, .data, .data, .data, .sentinel, .sentinel, .pinned], laidTests := true, laidLooks := .later }
def FrontAskUptoCardSaid : Prop := Claim7.holds Tryz.pinned (.plain (OpenSpec.upto frontAskSpec)) frontAskUptoCard

/-- THE SECOND FORM's CARD OF 'annalslaw27.FrontLines'. -/
def frontLinesUptoCard : Claim7 := { stood := { row := frontLinesUptoRow, standIns := [], harness := (true, "5c910e53875fe9868adb2bc92caa82feb5eb2cd3705237b66a1d977a7904de03"), looks := true }, kinds := [], alts := [], laidByText := true, laidKinds := [.data, .data, .data, .data, .data, .data, .sentinel, .sentinel, .pinned], laidTests := true, laidLooks := .later }
def FrontLinesUptoCardSaid : Prop := Claim7.holds Tryz.pinned (.plain (OpenSpec.upto frontLinesSpec)) frontLinesUptoCard
end Rows
end Go.Proofs.YtnkioabdpploeaaGreatDoor
