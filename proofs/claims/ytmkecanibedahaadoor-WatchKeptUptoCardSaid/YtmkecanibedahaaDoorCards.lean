/-
  DERIVED. GIVEN WITH THE SEED: THE CARDS: each row of YtmkecanibedahaaDoorRows.lean that lists a variable, with what it lists TIED to the program's text (the seventh form; the later family's looks); each row that meets fmt, with fmt's text TOLD by the authors' own Lean function (tested against real Go, not proved from fmt's source: count such statements apart). THE CARD IS WHAT COUNTS. Prove the row's statement (the work); the ties are given (YtmkecanibedahaaDoorTie.lean); close each card by the builder's one call (the guide's Derived/Test/ToyasCard.lean, 'card_holds'). Laid BY PROGRAM, IN A SANDBOX (cutbox-door.mjs). By AI agents, Wed Nov 11 2026. No macro, syntax, notation, axiom, sorry.
-/
import Derived.Test.YtmkecanibedahaaDoorRows
import GoSem.ClaimSeven
namespace Go.Proofs.YtmkecanibedahaaDoor
namespace Rows

/-- THE TIED CARD OF 'annalslaw24.WatchKept'. -/
def watchKeptCard : Claim7 := { stood := { row := watchKeptRow, standIns := [], harness := (true, "36b97b8a128c43917fd352244e608bdf2b19c5a4c6bdf06689affdaa81327e56"), looks := false }, kinds := [], alts := [], laidByText := true, laidKinds := [.data, .data, .data, .data], laidTests := true, laidLooks := .later }
def WatchKeptCardSaid : Prop := Claim7.holds Tryd.pinned (.plain (OpenSpec.ofChange watchKeptSpec)) watchKeptCard

/-- THE SECOND FORM's CARD OF 'annalslaw24.WatchKept'. -/
def watchKeptUptoCard : Claim7 := { stood := { row := watchKeptUptoRow, standIns := [], harness := (true, "36b97b8a128c43917fd352244e608bdf2b19c5a4c6bdf06689affdaa81327e56"), looks := false }, kinds := [], alts := [], laidByText := true, laidKinds := [.data, .data, .data, .data], laidTests := true, laidLooks := .later }
def WatchKeptUptoCardSaid : Prop := Claim7.holds Tryd.pinned (.plain (OpenSpec.upto watchKeptSpec)) watchKeptUptoCard
end Rows
end Go.Proofs.YtmkecanibedahaaDoor
