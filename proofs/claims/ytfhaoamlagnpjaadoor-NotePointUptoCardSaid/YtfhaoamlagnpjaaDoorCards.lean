/-
  DERIVED. GIVEN WITH THE SEED: THE CARDS: each row of YtfhaoamlagnpjaaDoorRows.lean that lists a variable, with what it lists TIED to the program's text (the seventh form; the later family's looks); each row that meets fmt, with fmt's text TOLD by the authors' own Lean function (tested against real Go, not proved from fmt's source: count such statements apart). THE CARD IS WHAT COUNTS. Prove the row's statement (the work); the ties are given (YtfhaoamlagnpjaaDoorTie.lean); close each card by the builder's one call (the guide's Derived/Test/ToyasCard.lean, 'card_holds'). Laid BY PROGRAM, IN A SANDBOX (cutbox-door.mjs). By AI agents, Wed Nov 11 2026. No macro, syntax, notation, axiom, sorry.
-/
import Derived.Test.YtfhaoamlagnpjaaDoorRows
import GoSem.ClaimSeven
namespace Go.Proofs.YtfhaoamlagnpjaaDoor
namespace Rows

/-- THE TIED CARD OF 'annalslaw20.NoteNames'. -/
def noteNamesCard : Claim7 := { stood := { row := noteNamesRow, standIns := [], harness := (true, "aa76cf2a4085ac06bb810549891ecff39ba3b0174b89025a6d48942b2a21a23d"), looks := false }, kinds := [], alts := [], laidByText := true, laidKinds := [.data, .data], laidTests := true, laidLooks := .later }
def NoteNamesCardSaid : Prop := Claim7.holds Tryd.pinned (.plain (OpenSpec.ofChange noteNamesSpec)) noteNamesCard

/-- THE TIED CARD OF 'annalslaw20.NoteID'. -/
def noteIDCard : Claim7 := { stood := { row := noteIDRow, standIns := [], harness := (true, "aa76cf2a4085ac06bb810549891ecff39ba3b0174b89025a6d48942b2a21a23d"), looks := false }, kinds := [], alts := [], laidByText := true, laidKinds := [.data, .data, .data, .data], laidTests := true, laidLooks := .later }
def NoteIDCardSaid : Prop := Claim7.holds Tryd.pinned (.plain (OpenSpec.ofChange noteIDSpec)) noteIDCard

/-- THE TIED CARD OF 'annalslaw20.NoteText'. -/
def noteTextCard : Claim7 := { stood := { row := noteTextRow, standIns := [], harness := (true, "aa76cf2a4085ac06bb810549891ecff39ba3b0174b89025a6d48942b2a21a23d"), looks := false }, kinds := [], alts := [], laidByText := true, laidKinds := [.data, .pinned], laidTests := true, laidLooks := .later }
def NoteTextCardSaid : Prop := Claim7.holds Tryd.pinned (.plain (OpenSpec.ofChange noteTextSpec)) noteTextCard

/-- THE TIED CARD OF 'annalslaw20.NoteParse'. -/
def noteParseCard : Claim7 := { stood := { row := noteParseRow, standIns := [], harness := (true, "aa76cf2a4085ac06bb810549891ecff39ba3b0174b89025a6d48942b2a21a23d"), looks := false }, kinds := [], alts := [], laidByText := true, laidKinds := [.data, .pinned], laidTests := true, laidLooks := .later }
def NoteParseCardSaid : Prop := Claim7.holds Tryd.pinned (.plain (OpenSpec.ofChange noteParseSpec)) noteParseCard

/-- THE TIED CARD OF 'annalslaw20.NoteSign'. -/
def noteSignCard : Claim7 := { stood := { row := noteSignRow, standIns := [], harness := (true, "aa76cf2a4085ac06bb810549891ecff39ba3b0174b89025a6d48942b2a21a23d"), looks := false }, kinds := [], alts := [], laidByText := true, laidKinds := [.data, .data, .data, .data, .data, .pinned], laidTests := true, laidLooks := .later }
def NoteSignCardSaid : Prop := Claim7.holds Tryd.pinned (.plain (OpenSpec.ofChange noteSignSpec)) noteSignCard

/-- THE TIED CARD OF 'annalslaw20.NoteOpen'. -/
def noteOpenCard : Claim7 := { stood := { row := noteOpenRow, standIns := [], harness := (true, "aa76cf2a4085ac06bb810549891ecff39ba3b0174b89025a6d48942b2a21a23d"), looks := false }, kinds := [], alts := [], laidByText := true, laidKinds := [.data, .data, .data, .data, .data, .pinned], laidTests := true, laidLooks := .later }
def NoteOpenCardSaid : Prop := Claim7.holds Tryd.pinned (.plain (OpenSpec.ofChange noteOpenSpec)) noteOpenCard

/-- THE TIED CARD OF 'annalslaw20.NoteAdd'. -/
def noteAddCard : Claim7 := { stood := { row := noteAddRow, standIns := [], harness := (true, "aa76cf2a4085ac06bb810549891ecff39ba3b0174b89025a6d48942b2a21a23d"), looks := false }, kinds := [], alts := [], laidByText := true, laidKinds := [.data, .data, .data, .data, .data, .pinned], laidTests := true, laidLooks := .later }
def NoteAddCardSaid : Prop := Claim7.holds Tryd.pinned (.plain (OpenSpec.ofChange noteAddSpec)) noteAddCard

/-- THE TIED CARD OF 'annalslaw20.NoteBack'. -/
def noteBackCard : Claim7 := { stood := { row := noteBackRow, standIns := [], harness := (true, "aa76cf2a4085ac06bb810549891ecff39ba3b0174b89025a6d48942b2a21a23d"), looks := false }, kinds := [], alts := [], laidByText := true, laidKinds := [.data, .data, .data, .pinned], laidTests := true, laidLooks := .later }
def NoteBackCardSaid : Prop := Claim7.holds Tryd.pinned (.plain (OpenSpec.ofChange noteBackSpec)) noteBackCard

/-- THE TIED CARD OF 'annalslaw20.NoteOnly'. -/
def noteOnlyCard : Claim7 := { stood := { row := noteOnlyRow, standIns := [], harness := (true, "aa76cf2a4085ac06bb810549891ecff39ba3b0174b89025a6d48942b2a21a23d"), looks := false }, kinds := [], alts := [], laidByText := true, laidKinds := [.data, .data, .data, .pinned], laidTests := true, laidLooks := .later }
def NoteOnlyCardSaid : Prop := Claim7.holds Tryd.pinned (.plain (OpenSpec.ofChange noteOnlySpec)) noteOnlyCard

/-- THE TIED CARD OF 'annalslaw20.NotePoint'. -/
def notePointCard : Claim7 := { stood := { row := notePointRow, standIns := [], harness := (true, "aa76cf2a4085ac06bb810549891ecff39ba3b0174b89025a6d48942b2a21a23d"), looks := false }, kinds := [], alts := [], laidByText := true, laidKinds := [.data, .data, .data, .pinned], laidTests := true, laidLooks := .later }
def NotePointCardSaid : Prop := Claim7.holds Tryd.pinned (.plain (OpenSpec.ofChange notePointSpec)) notePointCard

/-- THE SECOND FORM's CARD OF 'annalslaw20.NoteNames'. -/
def noteNamesUptoCard : Claim7 := { stood := { row := noteNamesUptoRow, standIns := [], harness := (true, "aa76cf2a4085ac06bb810549891ecff39ba3b0174b89025a6d48942b2a21a23d"), looks := false }, kinds := [], alts := [], laidByText := true, laidKinds := [.data, .data], laidTests := true, laidLooks := .later }
def NoteNamesUptoCardSaid : Prop := Claim7.holds Tryd.pinned (.plain (OpenSpec.upto noteNamesSpec)) noteNamesUptoCard

/-- THE SECOND FORM's CARD OF 'annalslaw20.NoteID'. -/
def noteIDUptoCard : Claim7 := { stood := { row := noteIDUptoRow, standIns := [], harness := (true, "aa76cf2a4085ac06bb810549891ecff39ba3b0174b89025a6d48942b2a21a23d"), looks := false }, kinds := [], alts := [], laidByText := true, laidKinds := [.data, .data, .data, .data], laidTests := true, laidLooks := .later }
def NoteIDUptoCardSaid : Prop := Claim7.holds Tryd.pinned (.plain (OpenSpec.upto noteIDSpec)) noteIDUptoCard

/-- THE SECOND FORM's CARD OF 'annalslaw20.NoteText'. -/
def noteTextUptoCard : Claim7 := { stood := { row := noteTextUptoRow, standIns := [], harness := (true, "aa76cf2a4085ac06bb810549891ecff39ba3b0174b89025a6d48942b2a21a23d"), looks := false }, kinds := [], alts := [], laidByText := true, laidKinds := [.data, .pinned], laidTests := true, laidLooks := .later }
def NoteTextUptoCardSaid : Prop := Claim7.holds Tryd.pinned (.plain (OpenSpec.upto noteTextSpec)) noteTextUptoCard

/-- THE SECOND FORM's CARD OF 'annalslaw20.NoteParse'. -/
def noteParseUptoCard : Claim7 := { stood := { row := noteParseUptoRow, standIns := [], harness := (true, "aa76cf2a4085ac06bb810549891ecff39ba3b0174b89025a6d48942b2a21a23d"), looks := false }, kinds := [], alts := [], laidByText := true, laidKinds := [.data, .pinned], laidTests := true, laidLooks := .later }
def NoteParseUptoCardSaid : Prop := Claim7.holds Tryd.pinned (.plain (OpenSpec.upto noteParseSpec)) noteParseUptoCard

/-- THE SECOND FORM's CARD OF 'annalslaw20.NoteSign'. -/
def noteSignUptoCard : Claim7 := { stood := { row := noteSignUptoRow, standIns := [], harness := (true, "aa76cf2a4085ac06bb810549891ecff39ba3b0174b89025a6d48942b2a21a23d"), looks := false }, kinds := [], alts := [], laidByText := true, laidKinds := [.data, .data, .data, .data, .data, .pinned], laidTests := true, laidLooks := .later }
def NoteSignUptoCardSaid : Prop := Claim7.holds Tryd.pinned (.plain (OpenSpec.upto noteSignSpec)) noteSignUptoCard

/-- THE SECOND FORM's CARD OF 'annalslaw20.NoteOpen'. -/
def noteOpenUptoCard : Claim7 := { stood := { row := noteOpenUptoRow, standIns := [], harness := (true, "aa76cf2a4085ac06bb810549891ecff39ba3b0174b89025a6d48942b2a21a23d"), looks := false }, kinds := [], alts := [], laidByText := true, laidKinds := [.data, .data, .data, .data, .data, .pinned], laidTests := true, laidLooks := .later }
def NoteOpenUptoCardSaid : Prop := Claim7.holds Tryd.pinned (.plain (OpenSpec.upto noteOpenSpec)) noteOpenUptoCard

/-- THE SECOND FORM's CARD OF 'annalslaw20.NoteAdd'. -/
def noteAddUptoCard : Claim7 := { stood := { row := noteAddUptoRow, standIns := [], harness := (true, "aa76cf2a4085ac06bb810549891ecff39ba3b0174b89025a6d48942b2a21a23d"), looks := false }, kinds := [], alts := [], laidByText := true, laidKinds := [.data, .data, .data, .data, .data, .pinned], laidTests := true, laidLooks := .later }
def NoteAddUptoCardSaid : Prop := Claim7.holds Tryd.pinned (.plain (OpenSpec.upto noteAddSpec)) noteAddUptoCard

/-- THE SECOND FORM's CARD OF 'annalslaw20.NoteBack'. -/
def noteBackUptoCard : Claim7 := { stood := { row := noteBackUptoRow, standIns := [], harness := (true, "aa76cf2a4085ac06bb810549891ecff39ba3b0174b89025a6d48942b2a21a23d"), looks := false }, kinds := [], alts := [], laidByText := true, laidKinds := [.data, .data, .data, .pinned], laidTests := true, laidLooks := .later }
def NoteBackUptoCardSaid : Prop := Claim7.holds Tryd.pinned (.plain (OpenSpec.upto noteBackSpec)) noteBackUptoCard

/-- THE SECOND FORM's CARD OF 'annalslaw20.NoteOnly'. -/
def noteOnlyUptoCard : Claim7 := { stood := { row := noteOnlyUptoRow, standIns := [], harness := (true, "aa76cf2a4085ac06bb810549891ecff39ba3b0174b89025a6d48942b2a21a23d"), looks := false }, kinds := [], alts := [], laidByText := true, laidKinds := [.data, .data, .data, .pinned], laidTests := true, laidLooks := .later }
def NoteOnlyUptoCardSaid : Prop := Claim7.holds Tryd.pinned (.plain (OpenSpec.upto noteOnlySpec)) noteOnlyUptoCard

/-- THE SECOND FORM's CARD OF 'annalslaw20.NotePoint'. -/
def notePointUptoCard : Claim7 := { stood := { row := notePointUptoRow, standIns := [], harness := (true, "aa76cf2a4085ac06bb810549891ecff39ba3b0174b89025a6d48942b2a21a23d"), looks := false }, kinds := [], alts := [], laidByText := true, laidKinds := [.data, .data, .data, .pinned], laidTests := true, laidLooks := .later }
def NotePointUptoCardSaid : Prop := Claim7.holds Tryd.pinned (.plain (OpenSpec.upto notePointSpec)) notePointUptoCard
end Rows
end Go.Proofs.YtfhaoamlagnpjaaDoor
