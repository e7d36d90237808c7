/-
  DERIVED. GIVEN WITH THE SEED: THE CARDS: each row of YtlcepambcoobgaaGreatDoorRows.lean that lists a variable, with what it lists TIED to the program's text (the seventh form; the later family's looks); each row that meets fmt, with fmt's text TOLD by the authors' own Lean function (tested against real Go, not proved from fmt's source: count such statements apart). THE CARD IS WHAT COUNTS. Prove the row's statement (the work); the ties are given (YtlcepambcoobgaaGreatDoorTie.lean); close each card by the builder's one call (the guide's Derived/Test/ToyasCard.lean, 'card_holds'). Laid BY PROGRAM, IN A SANDBOX (cutbox-door.mjs). By AI agents, Wed Nov 11 2026. No macro, syntax, notation, axiom, sorry.
-/
import Derived.Test.YtlcepambcoobgaaGreatDoorRows
import GoSem.ClaimSeven
namespace Go.Proofs.YtlcepambcoobgaaGreatDoor
namespace Rows

/-- THE TIED CARD OF 'coffretlaw20.BoundsWords'. -/
def boundsWordsCard : Claim7 := { stood := { row := boundsWordsRow, standIns := [], harness := (true, "ae91bcaebf69d488e5d296ba83597889b27cd02ad967908916c4a9d5f6738f29"), looks := true }, kinds := [], alts := [], laidByText := true, laidKinds := [.data, .data, .data, .data, .pinned], laidTests := true, laidLooks := .later }
def BoundsWordsCardSaid : Prop := Claim7.holds Tryz.pinned (.plain (OpenSpec.ofChange boundsWordsSpec)) boundsWordsCard

/-- THE TIED CARD OF 'coffretlaw05.ExprParses'. -/
def exprParsesCard : Claim7 := { stood := { row := exprParsesRow, standIns := [], harness := (true, "ae91bcaebf69d488e5d296ba83597889b27cd02ad967908916c4a9d5f6738f29"), looks := true }, kinds := [], alts := [], laidByText := true, laidKinds := [.data, .data, .data, .data, .pinned], laidTests := true, laidLooks := .later }
def ExprParsesCardSaid : Prop := Claim7.holds Tryz.pinned (.plain (OpenSpec.ofChange exprParsesSpec)) exprParsesCard

/-- THE TIED CARD OF 'coffretlaw05.ExprPlain'. -/
def exprPlainCard : Claim7 := { stood := { row := exprPlainRow, standIns := [], harness := (true, "ae91bcaebf69d488e5d296ba83597889b27cd02ad967908916c4a9d5f6738f29"), looks := true }, kinds := [], alts := [], laidByText := true, laidKinds := [.data, .data, .data, .data, .pinned], laidTests := true, laidLooks := .later }
def ExprPlainCardSaid : Prop := Claim7.holds Tryz.pinned (.plain (OpenSpec.ofChange exprPlainSpec)) exprPlainCard

/-- THE TIED CARD OF 'coffretlaw05.ExprSums'. -/
def exprSumsCard : Claim7 := { stood := { row := exprSumsRow, standIns := [], harness := (true, "ae91bcaebf69d488e5d296ba83597889b27cd02ad967908916c4a9d5f6738f29"), looks := true }, kinds := [], alts := [], laidByText := true, laidKinds := [.data, .data, .data, .data, .pinned], laidTests := true, laidLooks := .later }
def ExprSumsCardSaid : Prop := Claim7.holds Tryz.pinned (.plain (OpenSpec.ofChange exprSumsSpec)) exprSumsCard

/-- THE TIED CARD OF 'coffretlaw05.ExprTexts'. -/
def exprTextsCard : Claim7 := { stood := { row := exprTextsRow, standIns := [], harness := (true, "ae91bcaebf69d488e5d296ba83597889b27cd02ad967908916c4a9d5f6738f29"), looks := true }, kinds := [], alts := [], laidByText := true, laidKinds := [.data, .data, .data, .data, .pinned], laidTests := true, laidLooks := .later }
def ExprTextsCardSaid : Prop := Claim7.holds Tryz.pinned (.plain (OpenSpec.ofChange exprTextsSpec)) exprTextsCard

/-- THE TIED CARD OF 'coffretlaw05.ExprDates'. -/
def exprDatesCard : Claim7 := { stood := { row := exprDatesRow, standIns := [], harness := (true, "ae91bcaebf69d488e5d296ba83597889b27cd02ad967908916c4a9d5f6738f29"), looks := true }, kinds := [], alts := [], laidByText := true, laidKinds := [.data, .data, .data, .data, .pinned], laidTests := true, laidLooks := .later }
def ExprDatesCardSaid : Prop := Claim7.holds Tryz.pinned (.plain (OpenSpec.ofChange exprDatesSpec)) exprDatesCard

/-- THE TIED CARD OF 'coffretlaw05.ExprLoops'. -/
def exprLoopsCard : Claim7 := { stood := { row := exprLoopsRow, standIns := [], harness := (true, "ae91bcaebf69d488e5d296ba83597889b27cd02ad967908916c4a9d5f6738f29"), looks := true }, kinds := [], alts := [], laidByText := true, laidKinds := [.data, .data, .data, .data, .pinned], laidTests := true, laidLooks := .later }
def ExprLoopsCardSaid : Prop := Claim7.holds Tryz.pinned (.plain (OpenSpec.ofChange exprLoopsSpec)) exprLoopsCard

/-- THE TIED CARD OF 'coffretlaw10.IndexKeys'. -/
def indexKeysCard : Claim7 := { stood := { row := indexKeysRow, standIns := [], harness := (true, "ae91bcaebf69d488e5d296ba83597889b27cd02ad967908916c4a9d5f6738f29"), looks := true }, kinds := [], alts := [], laidByText := true, laidKinds := [.data, .data, .data, .data, .sentinel, .sentinel, .pinned], laidTests := true, laidLooks := .later }
def IndexKeysCardSaid : Prop := Claim7.holds Tryz.pinned (.plain (OpenSpec.ofChange indexKeysSpec)) indexKeysCard

/-- THE TIED CARD OF 'coffretlaw10.IndexOne'. -/
def indexOneCard : Claim7 := { stood := { row := indexOneRow, standIns := [], harness := (true, "ae91bcaebf69d488e5d296ba83597889b27cd02ad967908916c4a9d5f6738f29"), looks := true }, kinds := [], alts := [], laidByText := true, laidKinds := [.data, .data, .data, .data, .sentinel, .sentinel, .pinned], laidTests := true, laidLooks := .later }
def IndexOneCardSaid : Prop := Claim7.holds Tryz.pinned (.plain (OpenSpec.ofChange indexOneSpec)) indexOneCard

/-- THE TIED CARD OF 'coffretlaw10.IndexExpires'. -/
def indexExpiresCard : Claim7 := { stood := { row := indexExpiresRow, standIns := [], harness := (true, "ae91bcaebf69d488e5d296ba83597889b27cd02ad967908916c4a9d5f6738f29"), looks := true }, kinds := [], alts := [], laidByText := true, laidKinds := [.data, .data, .data, .data, .sentinel, .sentinel, .pinned], laidTests := true, laidLooks := .later }
def IndexExpiresCardSaid : Prop := Claim7.holds Tryz.pinned (.plain (OpenSpec.ofChange indexExpiresSpec)) indexExpiresCard

/-- THE TIED CARD OF 'coffretlaw20.BoundsMiss'. -/
def boundsMissCard : Claim7 := { stood := { row := boundsMissRow, standIns := [], harness := (true, "ae91bcaebf69d488e5d296ba83597889b27cd02ad967908916c4a9d5f6738f29"), looks := true }, kinds := [], alts := [], laidByText := true, laidKinds := [.data, .data, .data, .data, .sentinel, .sentinel, .pinned], laidTests := true, laidLooks := .later }
def BoundsMissCardSaid : Prop := Claim7.holds Tryz.pinned (.plain (OpenSpec.ofChange boundsMissSpec)) boundsMissCard

/-- THE TIED CARD OF 'coffretlaw20.BoundsTexts'. -/
def boundsTextsCard : Claim7 := { stood := { row := boundsTextsRow, standIns := [], harness := (true, "ae91bcaebf69d488e5d296ba83597889b27cd02ad967908916c4a9d5f6738f29"), looks := true }, kinds := [], alts := [], laidByText := true, laidKinds := [.data, .data, .data, .data, .sentinel, .sentinel, .pinned], laidTests := true, laidLooks := .later }
def BoundsTextsCardSaid : Prop := Claim7.holds Tryz.pinned (.plain (OpenSpec.ofChange boundsTextsSpec)) boundsTextsCard

/-- THE SECOND FORM's CARD OF 'coffretlaw20.BoundsWords'. -/
def boundsWordsUptoCard : Claim7 := { stood := { row := boundsWordsUptoRow, standIns := [], harness := (true, "ae91bcaebf69d488e5d296ba83597889b27cd02ad967908916c4a9d5f6738f29"), looks := true }, kinds := [], alts := [], laidByText := true, laidKinds := [.data, .data, .data, .data, .pinned], laidTests := true, laidLooks := .later }
def BoundsWordsUptoCardSaid : Prop := Claim7.holds Tryz.pinned (.plain (OpenSpec.upto boundsWordsSpec)) boundsWordsUptoCard

/-- THE SECOND FORM's CARD OF 'coffretlaw05.ExprParses'. -/
def exprParsesUptoCard : Claim7 := { stood := { row := exprParsesUptoRow, standIns := [], harness := (true, "ae91bcaebf69d488e5d296ba83597889b27cd02ad967908916c4a9d5f6738f29"), looks := true }, kinds := [], alts := [], laidByText := true, laidKinds := [.data, .data, .data, .data, .pinned], laidTests := true, laidLooks := .later }
def ExprParsesUptoCardSaid : Prop := Claim7.holds Tryz.pinned (.plain (OpenSpec.upto exprParsesSpec)) exprParsesUptoCard

/-- THE SECOND FORM's CARD OF 'coffretlaw05.ExprPlain'. -/
def exprPlainUptoCard : Claim7 := { stood := { row := exprPlainUptoRow, standIns := [], harness := (true, "ae91bcaebf69d488e5d296ba83597889b27cd02ad967908916c4a9d5f6738f29"), looks := true }, kinds := [], alts := [], laidByText := true, laidKinds := [.data, .data, .data, .data, .pinned], laidTests := true, laidLooks := .later }
def ExprPlainUptoCardSaid : Prop := Claim7.holds Tryz.pinned (.plain (OpenSpec.upto exprPlainSpec)) exprPlainUptoCard

/-- THE SECOND FORM's CARD OF 'coffretlaw05.ExprSums'. -/
def exprSumsUptoCard : Claim7 := { stood := { row := exprSumsUptoRow, standIns := [], harness := (true, "ae91bcaebf69d488e5d296ba83597889b27cd02ad967908916c4a9d5f6738f29"), looks := true }, kinds := [], alts := [], laidByText := true, laidKinds := [.data, .data, .data, .data, .pinned], laidTests := true, laidLooks := .later }
def ExprSumsUptoCardSaid : Prop := Claim7.holds Tryz.pinned (.plain (OpenSpec.upto exprSumsSpec)) exprSumsUptoCard

/-- THE SECOND FORM's CARD OF 'coffretlaw05.ExprTexts'. -/
def exprTextsUptoCard : Claim7 := { stood := { row := exprTextsUptoRow, standIns := [], harness := (true, "ae91bcaebf69d488e5d296ba83597889b27cd02ad967908916c4a9d5f6738f29"), looks := true }, kinds := [], alts := [], laidByText := true, laidKinds := [.data, .data, .data, .data, .pinned], laidTests := true, laidLooks := .later }
def ExprTextsUptoCardSaid : Prop := Claim7.holds Tryz.pinned (.plain (OpenSpec.upto exprTextsSpec)) exprTextsUptoCard

/-- THE SECOND FORM's CARD OF 'coffretlaw05.ExprDates'. -/
def exprDatesUptoCard : Claim7 := { stood := { row := exprDatesUptoRow, standIns := [], harness := (true, "ae91bcaebf69d488e5d296ba83597889b27cd02ad967908916c4a9d5f6738f29"), looks := true }, kinds := [], alts := [], laidByText := true, laidKinds := [.data, .data, .data, .data, .pinned], laidTests := true, laidLooks := .later }
def ExprDatesUptoCardSaid : Prop := Claim7.holds Tryz.pinned (.plain (OpenSpec.upto exprDatesSpec)) exprDatesUptoCard

/-- THE SECOND FORM's CARD OF 'coffretlaw05.ExprLoops'. -/
def exprLoopsUptoCard : Claim7 := { stood := { row := exprLoopsUptoRow, standIns := [], harness := (true, "ae91bcaebf69d488e5d296ba83597889b27cd02ad967908916c4a9d5f6738f29"), looks := true }, kinds := [], alts := [], laidByText := true, laidKinds := [.data, .data, .data, .data, .pinned], laidTests := true, laidLooks := .later }
def ExprLoopsUptoCardSaid : Prop := Claim7.holds Tryz.pinned (.plain (OpenSpec.upto exprLoopsSpec)) exprLoopsUptoCard

/-- THE SECOND FORM's CARD OF 'coffretlaw10.IndexKeys'. -/
def indexKeysUptoCard : Claim7 := { stood := { row := indexKeysUptoRow, standIns := [], harness := (true, "ae91bcaebf69d488e5d296ba83597889b27cd02ad967908916c4a9d5f6738f29"), looks := true }, kinds := [], alts := [], laidByText := true, laidKinds := [.data, .data, .data, .data, .sentinel, .sentinel, .pinned], laidTests := true, laidLooks := .later }
def IndexKeysUptoCardSaid : Prop := Claim7.holds Tryz.pinned (.plain (OpenSpec.upto indexKeysSpec)) indexKeysUptoCard

/-- THE SECOND FORM's CARD OF 'coffretlaw10.IndexOne'. -/
def indexOneUptoCard : Claim7 := { stood := { row := indexOneUptoRow, standIns := [], harness := (true, "ae91bcaebf69d488e5d296ba83597889b27cd02ad967908916c4a9d5f6738f29"), looks := true }, kinds := [], alts := [], laidByText := true, laidKinds := [.data, .data, .data, .data, .sentinel, .sentinel, .pinned], laidTests := true, laidLooks := .later }
def IndexOneUptoCardSaid : Prop := Claim7.holds Tryz.pinned (.plain (OpenSpec.upto indexOneSpec)) indexOneUptoCard

/-- THE SECOND FORM's CARD OF 'coffretlaw10.IndexExpires'. -/
def indexExpiresUptoCard : Claim7 := { stood := { row := indexExpiresUptoRow, standIns := [], harness := (true, "ae91bcaebf69d488e5d296ba83597889b27cd02ad967908916c4a9d5f6738f29"), looks := true }, kinds := [], alts := [], laidByText := true, laidKinds := [.data, .data, .data, .data, .sentinel, .sentinel, .pinned], laidTests := true, laidLooks := .later }
def IndexExpiresUptoCardSaid : Prop := Claim7.holds Tryz.pinned (.plain (OpenSpec.upto indexExpiresSpec)) indexExpiresUptoCard

/-- THE SECOND FORM's CARD OF 'coffretlaw20.BoundsMiss'. -/
def boundsMissUptoCard : Claim7 := { stood := { row := boundsMissUptoRow, standIns := [], harness := (true, "ae91bcaebf69d488e5d296ba83597889b27cd02ad967908916c4a9d5f6738f29"), looks := true }, kinds := [], alts := [], laidByText := true, laidKinds := [.data, .data, .data, .data, .sentinel, .sentinel, .pinned], laidTests := true, laidLooks := .later }
def BoundsMissUptoCardSaid : Prop := Claim7.holds Tryz.pinned (.plain (OpenSpec.upto boundsMissSpec)) boundsMissUptoCard

/-- THE SECOND FORM's CARD OF 'coffretlaw20.BoundsTexts'. -/
def boundsTextsUptoCard : Claim7 := { stood := { row := boundsTextsUptoRow, standIns := [], harness := (true, "ae91bcaebf69d488e5d296ba83597889b27cd02ad967908916c4a9d5f6738f29"), looks := true }, kinds := [], alts := [], laidByText := true, laidKinds := [.data, .data, .data, .data, .sentinel, .sentinel, .pinned], laidTests := true, laidLooks := .later }
def BoundsTextsUptoCardSaid : Prop := Claim7.holds Tryz.pinned (.plain (OpenSpec.upto boundsTextsSpec)) boundsTextsUptoCard
end Rows
end Go.Proofs.YtlcepambcoobgaaGreatDoor
