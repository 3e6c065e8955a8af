/-
  DERIVED. GIVEN WITH THE SEED: THE CARDS: each row of YtfbkfdoekgnldaaDoorRows.lean that lists a variable, with what it lists TIED to the program's text (the seventh form; the later family's looks); each row that meets fmt, with fmt's text TOLD by the authors' own Lean function (tested against real Go, not proved from fmt's source: count such statements apart). THE CARD IS WHAT COUNTS. Prove the row's statement (the work); the ties are given (YtfbkfdoekgnldaaDoorTie.lean); close each card by the builder's one call (the guide's Derived/Test/ToyasCard.lean, 'card_holds'). Laid BY PROGRAM, IN A SANDBOX (cutbox-door.mjs). By AI agents, Wed Nov 11 2026. No macro, syntax, notation, axiom, sorry.
-/
import Derived.Test.YtfbkfdoekgnldaaDoorRows
import GoSem.ClaimSeven
namespace Go.Proofs.YtfbkfdoekgnldaaDoor
namespace Rows

/-- THE TIED CARD OF 'limewashlaw09.JournalTwice'. -/
def journalTwiceCard : Claim7 := { stood := { row := journalTwiceRow, standIns := [], harness := (true, "8c731416f10e8a2b3b35a935e0c79312d27142431acc335607e535cb0bf5841e"), looks := false }, kinds := [], alts := [], laidByText := true, laidKinds := [.data], laidTests := true, laidLooks := .later }
def JournalTwiceCardSaid : Prop := Claim7.holds Tryd.pinned (.plain (OpenSpec.ofChange journalTwiceSpec)) journalTwiceCard

/-- THE TIED CARD OF 'limewashlaw09.JournalNumbers'. -/
def journalNumbersCard : Claim7 := { stood := { row := journalNumbersRow, standIns := [], harness := (true, "8c731416f10e8a2b3b35a935e0c79312d27142431acc335607e535cb0bf5841e"), looks := false }, kinds := [], alts := [], laidByText := true, laidKinds := [.data], laidTests := true, laidLooks := .later }
def JournalNumbersCardSaid : Prop := Claim7.holds Tryd.pinned (.plain (OpenSpec.ofChange journalNumbersSpec)) journalNumbersCard

/-- THE TIED CARD OF 'limewashlaw09.JournalTorn'. -/
def journalTornCard : Claim7 := { stood := { row := journalTornRow, standIns := [], harness := (true, "8c731416f10e8a2b3b35a935e0c79312d27142431acc335607e535cb0bf5841e"), looks := false }, kinds := [], alts := [], laidByText := true, laidKinds := [.data], laidTests := true, laidLooks := .later }
def JournalTornCardSaid : Prop := Claim7.holds Tryd.pinned (.plain (OpenSpec.ofChange journalTornSpec)) journalTornCard

/-- THE TIED CARD OF 'limewashlaw09.JournalKnown'. -/
def journalKnownCard : Claim7 := { stood := { row := journalKnownRow, standIns := [], harness := (true, "8c731416f10e8a2b3b35a935e0c79312d27142431acc335607e535cb0bf5841e"), looks := false }, kinds := [], alts := [], laidByText := true, laidKinds := [.data], laidTests := true, laidLooks := .later }
def JournalKnownCardSaid : Prop := Claim7.holds Tryd.pinned (.plain (OpenSpec.ofChange journalKnownSpec)) journalKnownCard

/-- THE TIED CARD OF 'limewashlaw09.JournalCosts'. -/
def journalCostsCard : Claim7 := { stood := { row := journalCostsRow, standIns := [], harness := (true, "8c731416f10e8a2b3b35a935e0c79312d27142431acc335607e535cb0bf5841e"), looks := false }, kinds := [], alts := [], laidByText := true, laidKinds := [.data], laidTests := true, laidLooks := .later }
def JournalCostsCardSaid : Prop := Claim7.holds Tryd.pinned (.plain (OpenSpec.ofChange journalCostsSpec)) journalCostsCard

/-- THE TIED CARD OF 'limewashlaw09.JournalAtomic'. -/
def journalAtomicCard : Claim7 := { stood := { row := journalAtomicRow, standIns := [], harness := (true, "8c731416f10e8a2b3b35a935e0c79312d27142431acc335607e535cb0bf5841e"), looks := false }, kinds := [], alts := [], laidByText := true, laidKinds := [.data], laidTests := true, laidLooks := .later }
def JournalAtomicCardSaid : Prop := Claim7.holds Tryd.pinned (.plain (OpenSpec.ofChange journalAtomicSpec)) journalAtomicCard

/-- THE SECOND FORM's CARD OF 'limewashlaw09.JournalTwice'. -/
def journalTwiceUptoCard : Claim7 := { stood := { row := journalTwiceUptoRow, standIns := [], harness := (true, "8c731416f10e8a2b3b35a935e0c79312d27142431acc335607e535cb0bf5841e"), looks := false }, kinds := [], alts := [], laidByText := true, laidKinds := [.data], laidTests := true, laidLooks := .later }
def JournalTwiceUptoCardSaid : Prop := Claim7.holds Tryd.pinned (.plain (OpenSpec.upto journalTwiceSpec)) journalTwiceUptoCard

/-- THE SECOND FORM's CARD OF 'limewashlaw09.JournalNumbers'. -/
def journalNumbersUptoCard : Claim7 := { stood := { row := journalNumbersUptoRow, standIns := [], harness := (true, "8c731416f10e8a2b3b35a935e0c79312d27142431acc335607e535cb0bf5841e"), looks := false }, kinds := [], alts := [], laidByText := true, laidKinds := [.data], laidTests := true, laidLooks := .later }
def JournalNumbersUptoCardSaid : Prop := Claim7.holds Tryd.pinned (.plain (OpenSpec.upto journalNumbersSpec)) journalNumbersUptoCard

/-- THE SECOND FORM's CARD OF 'limewashlaw09.JournalTorn'. -/
def journalTornUptoCard : Claim7 := { stood := { row := journalTornUptoRow, standIns := [], harness := (true, "8c731416f10e8a2b3b35a935e0c79312d27142431acc335607e535cb0bf5841e"), looks := false }, kinds := [], alts := [], laidByText := true, laidKinds := [.data], laidTests := true, laidLooks := .later }
def JournalTornUptoCardSaid : Prop := Claim7.holds Tryd.pinned (.plain (OpenSpec.upto journalTornSpec)) journalTornUptoCard

/-- THE SECOND FORM's CARD OF 'limewashlaw09.JournalKnown'. -/
def journalKnownUptoCard : Claim7 := { stood := { row := journalKnownUptoRow, standIns := [], harness := (true, "8c731416f10e8a2b3b35a935e0c79312d27142431acc335607e535cb0bf5841e"), looks := false }, kinds := [], alts := [], laidByText := true, laidKinds := [.data], laidTests := true, laidLooks := .later }
def JournalKnownUptoCardSaid : Prop := Claim7.holds Tryd.pinned (.plain (OpenSpec.upto journalKnownSpec)) journalKnownUptoCard

/-- THE SECOND FORM's CARD OF 'limewashlaw09.JournalCosts'. -/
def journalCostsUptoCard : Claim7 := { stood := { row := journalCostsUptoRow, standIns := [], harness := (true, "8c731416f10e8a2b3b35a935e0c79312d27142431acc335607e535cb0bf5841e"), looks := false }, kinds := [], alts := [], laidByText := true, laidKinds := [.data], laidTests := true, laidLooks := .later }
def JournalCostsUptoCardSaid : Prop := Claim7.holds Tryd.pinned (.plain (OpenSpec.upto journalCostsSpec)) journalCostsUptoCard

/-- THE SECOND FORM's CARD OF 'limewashlaw09.JournalAtomic'. -/
def journalAtomicUptoCard : Claim7 := { stood := { row := journalAtomicUptoRow, standIns := [], harness := (true, "8c731416f10e8a2b3b35a935e0c79312d27142431acc335607e535cb0bf5841e"), looks := false }, kinds := [], alts := [], laidByText := true, laidKinds := [.data], laidTests := true, laidLooks := .later }
def JournalAtomicUptoCardSaid : Prop := Claim7.holds Tryd.pinned (.plain (OpenSpec.upto journalAtomicSpec)) journalAtomicUptoCard
end Rows
end Go.Proofs.YtfbkfdoekgnldaaDoor
