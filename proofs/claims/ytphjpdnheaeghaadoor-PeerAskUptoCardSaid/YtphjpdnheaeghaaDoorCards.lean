/-
  DERIVED. GIVEN WITH THE SEED: THE CARDS: each row of YtphjpdnheaeghaaDoorRows.lean that lists a variable, with what it lists TIED to the program's text (the seventh form; the later family's looks); each row that meets fmt, with fmt's text TOLD by the authors' own Lean function (tested against real Go, not proved from fmt's source: count such statements apart). THE CARD IS WHAT COUNTS. Prove the row's statement (the work); the ties are given (YtphjpdnheaeghaaDoorTie.lean); close each card by the builder's one call (the guide's Derived/Test/ToyasCard.lean, 'card_holds'). Laid BY PROGRAM, IN A SANDBOX (cutbox-door.mjs). By AI agents, Wed Nov 11 2026. No macro, syntax, notation, axiom, sorry.
-/
import Derived.Test.YtphjpdnheaeghaaDoorRows
import GoSem.ClaimSeven
namespace Go.Proofs.YtphjpdnheaeghaaDoor
namespace Rows

/-- THE TIED CARD OF 'annalslaw22.PeerAsk'. -/
def peerAskCard : Claim7 := { stood := { row := peerAskRow, standIns := [], harness := (true, "10171f53ef0524ad2b631966d9007de1c18e993f3aefb21e58aedbf0f1379046"), looks := false }, kinds := [], alts := [], laidByText := true, laidKinds := [.data, .pinned], laidTests := true, laidLooks := .later }
def PeerAskCardSaid : Prop := Claim7.holds Tryd.pinned (.plain (OpenSpec.ofChange peerAskSpec)) peerAskCard

/-- THE TIED CARD OF 'annalslaw22.PeerAskBack'. -/
def peerAskBackCard : Claim7 := { stood := { row := peerAskBackRow, standIns := [], harness := (true, "10171f53ef0524ad2b631966d9007de1c18e993f3aefb21e58aedbf0f1379046"), looks := false }, kinds := [], alts := [], laidByText := true, laidKinds := [.data, .pinned], laidTests := true, laidLooks := .later }
def PeerAskBackCardSaid : Prop := Claim7.holds Tryd.pinned (.plain (OpenSpec.ofChange peerAskBackSpec)) peerAskBackCard

/-- THE SECOND FORM's CARD OF 'annalslaw22.PeerAsk'. -/
def peerAskUptoCard : Claim7 := { stood := { row := peerAskUptoRow, standIns := [], harness := (true, "10171f53ef0524ad2b631966d9007de1c18e993f3aefb21e58aedbf0f1379046"), looks := false }, kinds := [], alts := [], laidByText := true, laidKinds := [.data, .pinned], laidTests := true, laidLooks := .later }
def PeerAskUptoCardSaid : Prop := Claim7.holds Tryd.pinned (.plain (OpenSpec.upto peerAskSpec)) peerAskUptoCard

/-- THE SECOND FORM's CARD OF 'annalslaw22.PeerAskBack'. -/
def peerAskBackUptoCard : Claim7 := { stood := { row := peerAskBackUptoRow, standIns := [], harness := (true, "10171f53ef0524ad2b631966d9007de1c18e993f3aefb21e58aedbf0f1379046"), looks := false }, kinds := [], alts := [], laidByText := true, laidKinds := [.data, .pinned], laidTests := true, laidLooks := .later }
def PeerAskBackUptoCardSaid : Prop := Claim7.holds Tryd.pinned (.plain (OpenSpec.upto peerAskBackSpec)) peerAskBackUptoCard
end Rows
end Go.Proofs.YtphjpdnheaeghaaDoor
