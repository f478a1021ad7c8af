/-
  DERIVED. GIVEN WITH THE SEED: THE CARDS: each row of YtnkkpfomoodmjaaGreatDoorRows.lean that lists a variable, with what it lists TIED to the program's text (the seventh form; the later family's looks); each row that meets fmt, with fmt's text TOLD by the authors' own Lean function (tested against real Go, not proved from fmt's source: count such statements apart). THE CARD IS WHAT COUNTS. Prove the row's statement (the work); the ties are given (YtnkkpfomoodmjaaGreatDoorTie.lean); close each card by the builder's one call (the guide's Derived/Test/ToyasCard.lean, 'card_holds'). Laid BY PROGRAM, IN A SANDBOX (cutbox-door.mjs). By AI agents, Wed Nov 11 2026. No macro, syntax, notation, axiom, sorry.
-/
import Derived.Test.YtnkkpfomoodmjaaGreatDoorRows
import GoSem.ClaimSeven
namespace Go.Proofs.YtnkkpfomoodmjaaGreatDoor
namespace Rows

/-- THE TIED CARD OF 'annalslaw24.WatchJudge'. -/
def watchJudgeCard : Claim7 := { stood := { row := watchJudgeRow, standIns := [], harness := (true, "2b1d29d5d683f336646486bffc8613c32a797101a0a3afe3cd24b4d348dd1c37"), looks := false }, kinds := [], alts := [], laidByText := true, laidKinds := [.data, .data, .data, .data, .data, .pinned], laidTests := true, laidLooks := .later }
def WatchJudgeCardSaid : Prop := Claim7.holds Tryz.pinned (.plain (OpenSpec.ofChange watchJudgeSpec)) watchJudgeCard

/-- THE SECOND FORM's CARD OF 'annalslaw24.WatchJudge'. -/
def watchJudgeUptoCard : Claim7 := { stood := { row := watchJudgeUptoRow, standIns := [], harness := (true, "2b1d29d5d683f336646486bffc8613c32a797101a0a3afe3cd24b4d348dd1c37"), looks := false }, kinds := [], alts := [], laidByText := true, laidKinds := [.data, .data, .data, .data, .data, .pinned], laidTests := true, laidLooks := .later }
def WatchJudgeUptoCardSaid : Prop := Claim7.holds Tryz.pinned (.plain (OpenSpec.upto watchJudgeSpec)) watchJudgeUptoCard
end Rows
end Go.Proofs.YtnkkpfomoodmjaaGreatDoor
