/-
  DERIVED. GIVEN WITH THE SEED: THE CARDS: each row of YtfbkfdoekgnldaaGreatDoorRows.lean that lists a variable, with what it lists TIED to the program's text (the seventh form; the later family's looks); each row that meets fmt, with fmt's text TOLD by the authors' own Lean function (tested against real Go, not proved from fmt's source: count such statements apart). THE CARD IS WHAT COUNTS. Prove the row's statement (the work); the ties are given (YtfbkfdoekgnldaaGreatDoorTie.lean); close each card by the builder's one call (the guide's Derived/Test/ToyasCard.lean, 'card_holds'). Laid BY PROGRAM, IN A SANDBOX (cutbox-door.mjs). By AI agents, Wed Nov 11 2026. No macro, syntax, notation, axiom, sorry.
-/
import Derived.Test.YtfbkfdoekgnldaaGreatDoorRows
import GoSem.ClaimSeven
namespace Go.Proofs.YtfbkfdoekgnldaaGreatDoor
namespace Rows

/-- THE TIED CARD OF 'limewashlaw09.JournalPlays'. -/
def journalPlaysCard : Claim7 := { stood := { row := journalPlaysRow, standIns := [], harness := (true, "3fbc9b0bf3883f7bebc6a30392f7da5f68d1765027331d9ddf83ab78310cfca8"), looks := false }, kinds := [], alts := [], laidByText := true, laidKinds := [.data], laidTests := true, laidLooks := .later }
def JournalPlaysCardSaid : Prop := Claim7.holds Tryz.pinned (.plain (OpenSpec.ofChange journalPlaysSpec)) journalPlaysCard

/-- THE TIED CARD OF 'limewashlaw09.JournalRaw'. -/
def journalRawCard : Claim7 := { stood := { row := journalRawRow, standIns := [], harness := (true, "3fbc9b0bf3883f7bebc6a30392f7da5f68d1765027331d9ddf83ab78310cfca8"), looks := false }, kinds := [], alts := [], laidByText := true, laidKinds := [.data], laidTests := true, laidLooks := .later }
def JournalRawCardSaid : Prop := Claim7.holds Tryz.pinned (.plain (OpenSpec.ofChange journalRawSpec)) journalRawCard

/-- THE SECOND FORM's CARD OF 'limewashlaw09.JournalPlays'. -/
def journalPlaysUptoCard : Claim7 := { stood := { row := journalPlaysUptoRow, standIns := [], harness := (true, "3fbc9b0bf3883f7bebc6a30392f7da5f68d1765027331d9ddf83ab78310cfca8"), looks := false }, kinds := [], alts := [], laidByText := true, laidKinds := [.data], laidTests := true, laidLooks := .later }
def JournalPlaysUptoCardSaid : Prop := Claim7.holds Tryz.pinned (.plain (OpenSpec.upto journalPlaysSpec)) journalPlaysUptoCard

/-- THE SECOND FORM's CARD OF 'limewashlaw09.JournalRaw'. -/
def journalRawUptoCard : Claim7 := { stood := { row := journalRawUptoRow, standIns := [], harness := (true, "3fbc9b0bf3883f7bebc6a30392f7da5f68d1765027331d9ddf83ab78310cfca8"), looks := false }, kinds := [], alts := [], laidByText := true, laidKinds := [.data], laidTests := true, laidLooks := .later }
def JournalRawUptoCardSaid : Prop := Claim7.holds Tryz.pinned (.plain (OpenSpec.upto journalRawSpec)) journalRawUptoCard
end Rows
end Go.Proofs.YtfbkfdoekgnldaaGreatDoor
