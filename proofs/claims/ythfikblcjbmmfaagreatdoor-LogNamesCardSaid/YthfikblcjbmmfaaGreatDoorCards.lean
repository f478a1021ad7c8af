/-
  DERIVED. GIVEN WITH THE SEED: THE CARDS: each row of YthfikblcjbmmfaaGreatDoorRows.lean that lists a variable, with what it lists TIED to the program's text (the seventh form; the later family's looks); each row that meets fmt, with fmt's text TOLD by the authors' own Lean function (tested against real Go, not proved from fmt's source: count such statements apart). THE CARD IS WHAT COUNTS. Prove the row's statement (the work); the ties are given (YthfikblcjbmmfaaGreatDoorTie.lean); close each card by the builder's one call (the guide's Derived/Test/ToyasCard.lean, 'card_holds'). Laid BY PROGRAM, IN A SANDBOX (cutbox-door.mjs). By AI agents, Wed Nov 11 2026. No macro, syntax, notation, axiom, sorry.
-/
import Derived.Test.YthfikblcjbmmfaaGreatDoorRows
import GoSem.ClaimSeven
namespace Go.Proofs.YthfikblcjbmmfaaGreatDoor
namespace Rows

/-- THE TIED CARD OF 'annalslaw26.LogNames'. -/
def logNamesCard : Claim7 := { stood := { row := logNamesRow, standIns := [], harness := (true, "895662f6956c6105a370ce300907dd6b560112ec4ab441146c435e1e13eb5ebe"), looks := true }, kinds := [], alts := [], laidByText := true, laidKinds := [.data, .data], laidTests := true, laidLooks := .later }
def LogNamesCardSaid : Prop := Claim7.holds Tryz.pinned (.plain (OpenSpec.ofChange logNamesSpec)) logNamesCard

/-- THE TIED CARD OF 'annalslaw28.MirrorNames'. -/
def mirrorNamesCard : Claim7 := { stood := { row := mirrorNamesRow, standIns := [], harness := (true, "895662f6956c6105a370ce300907dd6b560112ec4ab441146c435e1e13eb5ebe"), looks := true }, kinds := [], alts := [], laidByText := true, laidKinds := [.data, .data, .data, .pinned], laidTests := true, laidLooks := .later }
def MirrorNamesCardSaid : Prop := Claim7.holds Tryz.pinned (.plain (OpenSpec.ofChange mirrorNamesSpec)) mirrorNamesCard

/-- THE SECOND FORM's CARD OF 'annalslaw26.LogNames'. -/
def logNamesUptoCard : Claim7 := { stood := { row := logNamesUptoRow, standIns := [], harness := (true, "895662f6956c6105a370ce300907dd6b560112ec4ab441146c435e1e13eb5ebe"), looks := true }, kinds := [], alts := [], laidByText := true, laidKinds := [.data, .data], laidTests := true, laidLooks := .later }
def LogNamesUptoCardSaid : Prop := Claim7.holds Tryz.pinned (.plain (OpenSpec.upto logNamesSpec)) logNamesUptoCard

/-- THE SECOND FORM's CARD OF 'annalslaw28.MirrorNames'. -/
def mirrorNamesUptoCard : Claim7 := { stood := { row := mirrorNamesUptoRow, standIns := [], harness := (true, "895662f6956c6105a370ce300907dd6b560112ec4ab441146c435e1e13eb5ebe"), looks := true }, kinds := [], alts := [], laidByText := true, laidKinds := [.data, .data, .data, .pinned], laidTests := true, laidLooks := .later }
def MirrorNamesUptoCardSaid : Prop := Claim7.holds Tryz.pinned (.plain (OpenSpec.upto mirrorNamesSpec)) mirrorNamesUptoCard
end Rows
end Go.Proofs.YthfikblcjbmmfaaGreatDoor
