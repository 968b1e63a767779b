/-
  DERIVED. GIVEN WITH THE SEED: THE CARDS: each row of YtebdaijenenepaaGreatDoorRows.lean that lists a variable, with what it lists TIED to the program's text (the seventh form; the later family's looks); each row that meets fmt, with fmt's text TOLD by the authors' own Lean function (tested against real Go, not proved from fmt's source: count such statements apart). THE CARD IS WHAT COUNTS. Prove the row's statement (the work); the ties are given (YtebdaijenenepaaGreatDoorTie.lean); close each card by the builder's one call (the guide's Derived/Test/ToyasCard.lean, 'card_holds'). Laid BY PROGRAM, IN A SANDBOX (cutbox-door.mjs). By AI agents, Wed Nov 11 2026. No macro, syntax, notation, axiom, sorry.
-/
import Derived.Test.YtebdaijenenepaaGreatDoorRows
import GoSem.ClaimSeven
namespace Go.Proofs.YtebdaijenenepaaGreatDoor
namespace Rows

/-- THE TIED CARD OF 'palfreylaw23.ShellWords'. -/
def shellWordsCard : Claim7 := { stood := { row := shellWordsRow, standIns := [], harness := (true, "55dd583e0a91fb4913bccf005540beebb1a9f87def97d5e56906bdc2ae1b52b4"), looks := true }, kinds := [], alts := [], laidByText := true, laidKinds := [.data, .data, .data, .data, .data, .sentinel, .sentinel, .pinned], laidTests := true, laidLooks := .later }
def ShellWordsCardSaid : Prop := Claim7.holds Tryz.pinned (.plain (OpenSpec.ofChange shellWordsSpec)) shellWordsCard

/-- THE TIED CARD OF 'palfreytop.TopLines'. -/
def topLinesCard : Claim7 := { stood := { row := topLinesRow, standIns := [], harness := (true, "55dd583e0a91fb4913bccf005540beebb1a9f87def97d5e56906bdc2ae1b52b4"), looks := true }, kinds := [], alts := [], laidByText := true, laidKinds := [.data, .data, .data, .data, .data, .sentinel, .sentinel, .pinned], laidTests := true, laidLooks := .later }
def TopLinesCardSaid : Prop := Claim7.holds Tryz.pinned (.plain (OpenSpec.ofChange topLinesSpec)) topLinesCard

/-- THE TIED CARD OF 'palfreylaw23.ShellBack'. -/
def shellBackCard : Claim7 := { stood := { row := shellBackRow, standIns := [], harness := (true, "55dd583e0a91fb4913bccf005540beebb1a9f87def97d5e56906bdc2ae1b52b4"), looks := true }, kinds := [], alts := [], laidByText := true, laidKinds := [.data, .data, .data, .data, .data, .sentinel, .sentinel, .pinned], laidTests := true, laidLooks := .later }
def ShellBackCardSaid : Prop := Claim7.holds Tryz.pinned (.plain (OpenSpec.ofChange shellBackSpec)) shellBackCard

/-- THE TIED CARD OF 'palfreylaw23.ShellNotes'. -/
def shellNotesCard : Claim7 := { stood := { row := shellNotesRow, standIns := [], harness := (true, "55dd583e0a91fb4913bccf005540beebb1a9f87def97d5e56906bdc2ae1b52b4"), looks := true }, kinds := [], alts := [], laidByText := true, laidKinds := [.data, .data, .data, .data, .data, .sentinel, .sentinel, .pinned], laidTests := true, laidLooks := .later }
def ShellNotesCardSaid : Prop := Claim7.holds Tryz.pinned (.plain (OpenSpec.ofChange shellNotesSpec)) shellNotesCard

/-- THE TIED CARD OF 'palfreylaw23.ShellSeals'. -/
def shellSealsCard : Claim7 := { stood := { row := shellSealsRow, standIns := [], harness := (true, "55dd583e0a91fb4913bccf005540beebb1a9f87def97d5e56906bdc2ae1b52b4"), looks := true }, kinds := [], alts := [], laidByText := true, laidKinds := [.data, .data, .data, .data, .data, .sentinel, .sentinel, .pinned], laidTests := true, laidLooks := .later }
def ShellSealsCardSaid : Prop := Claim7.holds Tryz.pinned (.plain (OpenSpec.ofChange shellSealsSpec)) shellSealsCard

/-- THE SECOND FORM's CARD OF 'palfreylaw23.ShellWords'. -/
def shellWordsUptoCard : Claim7 := { stood := { row := shellWordsUptoRow, standIns := [], harness := (true, "55dd583e0a91fb4913bccf005540beebb1a9f87def97d5e56906bdc2ae1b52b4"), looks := true }, kinds := [], alts := [], laidByText := true, laidKinds := [.data, .data, .data, .data, .data, .sentinel, .sentinel, .pinned], laidTests := true, laidLooks := .later }
def ShellWordsUptoCardSaid : Prop := Claim7.holds Tryz.pinned (.plain (OpenSpec.upto shellWordsSpec)) shellWordsUptoCard

/-- THE SECOND FORM's CARD OF 'palfreytop.TopLines'. -/
def topLinesUptoCard : Claim7 := { stood := { row := topLinesUptoRow, standIns := [], harness := (true, "55dd583e0a91fb4913bccf005540beebb1a9f87def97d5e56906bdc2ae1b52b4"), looks := true }, kinds := [], alts := [], laidByText := true, laidKinds := [.data, .data, .data, .data, .data, .sentinel, .sentinel, .pinned], laidTests := true, laidLooks := .later }
def TopLinesUptoCardSaid : Prop := Claim7.holds Tryz.pinned (.plain (OpenSpec.upto topLinesSpec)) topLinesUptoCard

/-- THE SECOND FORM's CARD OF 'palfreylaw23.ShellBack'. -/
def shellBackUptoCard : Claim7 := { stood := { row := shellBackUptoRow, standIns := [], harness := (true, "55dd583e0a91fb4913bccf005540beebb1a9f87def97d5e56906bdc2ae1b52b4"), looks := true }, kinds := [], alts := [], laidByText := true, laidKinds := [.data, .data, .data, .data, .data, .sentinel, .sentinel, .pinned], laidTests := true, laidLooks := .later }
def ShellBackUptoCardSaid : Prop := Claim7.holds Tryz.pinned (.plain (OpenSpec.upto shellBackSpec)) shellBackUptoCard

/-- THE SECOND FORM's CARD OF 'palfreylaw23.ShellNotes'. -/
def shellNotesUptoCard : Claim7 := { stood := { row := shellNotesUptoRow, standIns := [], harness := (true, "55dd583e0a91fb4913bccf005540beebb1a9f87def97d5e56906bdc2ae1b52b4"), looks := true }, kinds := [], alts := [], laidByText := true, laidKinds := [.data, .data, .data, .data, .data, .sentinel, .sentinel, .pinned], laidTests := true, laidLooks := .later }
def ShellNotesUptoCardSaid : Prop := Claim7.holds Tryz.pinned (.plain (OpenSpec.upto shellNotesSpec)) shellNotesUptoCard

/-- THE SECOND FORM's CARD OF 'palfreylaw23.ShellSeals'. -/
def shellSealsUptoCard : Claim7 := { stood := { row := shellSealsUptoRow, standIns := [], harness := (true, "55dd583e0a91fb4913bccf005540beebb1a9f87def97d5e56906bdc2ae1b52b4"), looks := true }, kinds := [], alts := [], laidByText := true, laidKinds := [.data, .data, .data, .data, .data, .sentinel, .sentinel, .pinned], laidTests := true, laidLooks := .later }
def ShellSealsUptoCardSaid : Prop := Claim7.holds Tryz.pinned (.plain (OpenSpec.upto shellSealsSpec)) shellSealsUptoCard
end Rows
end Go.Proofs.YtebdaijenenepaaGreatDoor
