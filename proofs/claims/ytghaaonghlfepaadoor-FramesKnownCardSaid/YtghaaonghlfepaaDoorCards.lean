/-
  DERIVED. GIVEN WITH THE SEED: THE CARDS: each row of YtghaaonghlfepaaDoorRows.lean that lists a variable, with what it lists TIED to the program's text (the seventh form; the later family's looks); each row that meets fmt, with fmt's text TOLD by the authors' own Lean function (tested against real Go, not proved from fmt's source: count such statements apart). THE CARD IS WHAT COUNTS. Prove the row's statement (the work); the ties are given (YtghaaonghlfepaaDoorTie.lean); close each card by the builder's one call (the guide's Derived/Test/ToyasCard.lean, 'card_holds'). Laid BY PROGRAM, IN A SANDBOX (cutbox-door.mjs). By AI agents, Wed Nov 11 2026. No macro, syntax, notation, axiom, sorry.
-/
import Derived.Test.YtghaaonghlfepaaDoorRows
import GoSem.ClaimSeven
namespace Go.Proofs.YtghaaonghlfepaaDoor
namespace Rows

/-- THE TIED CARD OF 'limewashlaw07.FramesSeals'. -/
def framesSealsCard : Claim7 := { stood := { row := framesSealsRow, standIns := [], harness := (true, "57b5ffc38387059758c272cf830c417b2dc967de3de86d0792d043b9d34b1946"), looks := false }, kinds := [], alts := [], laidByText := true, laidKinds := [.data], laidTests := true, laidLooks := .later }
def FramesSealsCardSaid : Prop := Claim7.holds Tryd.pinned (.plain (OpenSpec.ofChange framesSealsSpec)) framesSealsCard

/-- THE TIED CARD OF 'limewashlaw07.FramesOpens'. -/
def framesOpensCard : Claim7 := { stood := { row := framesOpensRow, standIns := [], harness := (true, "57b5ffc38387059758c272cf830c417b2dc967de3de86d0792d043b9d34b1946"), looks := false }, kinds := [], alts := [], laidByText := true, laidKinds := [.data], laidTests := true, laidLooks := .later }
def FramesOpensCardSaid : Prop := Claim7.holds Tryd.pinned (.plain (OpenSpec.ofChange framesOpensSpec)) framesOpensCard

/-- THE TIED CARD OF 'limewashlaw07.FramesBack'. -/
def framesBackCard : Claim7 := { stood := { row := framesBackRow, standIns := [], harness := (true, "57b5ffc38387059758c272cf830c417b2dc967de3de86d0792d043b9d34b1946"), looks := false }, kinds := [], alts := [], laidByText := true, laidKinds := [.data], laidTests := true, laidLooks := .later }
def FramesBackCardSaid : Prop := Claim7.holds Tryd.pinned (.plain (OpenSpec.ofChange framesBackSpec)) framesBackCard

/-- THE TIED CARD OF 'limewashlaw07.FramesPlace'. -/
def framesPlaceCard : Claim7 := { stood := { row := framesPlaceRow, standIns := [], harness := (true, "57b5ffc38387059758c272cf830c417b2dc967de3de86d0792d043b9d34b1946"), looks := false }, kinds := [], alts := [], laidByText := true, laidKinds := [.data], laidTests := true, laidLooks := .later }
def FramesPlaceCardSaid : Prop := Claim7.holds Tryd.pinned (.plain (OpenSpec.ofChange framesPlaceSpec)) framesPlaceCard

/-- THE TIED CARD OF 'limewashlaw07.FramesBursts'. -/
def framesBurstsCard : Claim7 := { stood := { row := framesBurstsRow, standIns := [], harness := (true, "57b5ffc38387059758c272cf830c417b2dc967de3de86d0792d043b9d34b1946"), looks := false }, kinds := [], alts := [], laidByText := true, laidKinds := [.data], laidTests := true, laidLooks := .later }
def FramesBurstsCardSaid : Prop := Claim7.holds Tryd.pinned (.plain (OpenSpec.ofChange framesBurstsSpec)) framesBurstsCard

/-- THE TIED CARD OF 'limewashlaw07.FramesKnown'. -/
def framesKnownCard : Claim7 := { stood := { row := framesKnownRow, standIns := [], harness := (true, "57b5ffc38387059758c272cf830c417b2dc967de3de86d0792d043b9d34b1946"), looks := false }, kinds := [], alts := [], laidByText := true, laidKinds := [.data], laidTests := true, laidLooks := .later }
def FramesKnownCardSaid : Prop := Claim7.holds Tryd.pinned (.plain (OpenSpec.ofChange framesKnownSpec)) framesKnownCard

/-- THE TIED CARD OF 'limewashlaw07.FramesDevices'. -/
def framesDevicesCard : Claim7 := { stood := { row := framesDevicesRow, standIns := [], harness := (true, "57b5ffc38387059758c272cf830c417b2dc967de3de86d0792d043b9d34b1946"), looks := false }, kinds := [], alts := [], laidByText := true, laidKinds := [.data], laidTests := true, laidLooks := .later }
def FramesDevicesCardSaid : Prop := Claim7.holds Tryd.pinned (.plain (OpenSpec.ofChange framesDevicesSpec)) framesDevicesCard

/-- THE SECOND FORM's CARD OF 'limewashlaw07.FramesSeals'. -/
def framesSealsUptoCard : Claim7 := { stood := { row := framesSealsUptoRow, standIns := [], harness := (true, "57b5ffc38387059758c272cf830c417b2dc967de3de86d0792d043b9d34b1946"), looks := false }, kinds := [], alts := [], laidByText := true, laidKinds := [.data], laidTests := true, laidLooks := .later }
def FramesSealsUptoCardSaid : Prop := Claim7.holds Tryd.pinned (.plain (OpenSpec.upto framesSealsSpec)) framesSealsUptoCard

/-- THE SECOND FORM's CARD OF 'limewashlaw07.FramesOpens'. -/
def framesOpensUptoCard : Claim7 := { stood := { row := framesOpensUptoRow, standIns := [], harness := (true, "57b5ffc38387059758c272cf830c417b2dc967de3de86d0792d043b9d34b1946"), looks := false }, kinds := [], alts := [], laidByText := true, laidKinds := [.data], laidTests := true, laidLooks := .later }
def FramesOpensUptoCardSaid : Prop := Claim7.holds Tryd.pinned (.plain (OpenSpec.upto framesOpensSpec)) framesOpensUptoCard

/-- THE SECOND FORM's CARD OF 'limewashlaw07.FramesBack'. -/
def framesBackUptoCard : Claim7 := { stood := { row := framesBackUptoRow, standIns := [], harness := (true, "57b5ffc38387059758c272cf830c417b2dc967de3de86d0792d043b9d34b1946"), looks := false }, kinds := [], alts := [], laidByText := true, laidKinds := [.data], laidTests := true, laidLooks := .later }
def FramesBackUptoCardSaid : Prop := Claim7.holds Tryd.pinned (.plain (OpenSpec.upto framesBackSpec)) framesBackUptoCard

/-- THE SECOND FORM's CARD OF 'limewashlaw07.FramesPlace'. -/
def framesPlaceUptoCard : Claim7 := { stood := { row := framesPlaceUptoRow, standIns := [], harness := (true, "57b5ffc38387059758c272cf830c417b2dc967de3de86d0792d043b9d34b1946"), looks := false }, kinds := [], alts := [], laidByText := true, laidKinds := [.data], laidTests := true, laidLooks := .later }
def FramesPlaceUptoCardSaid : Prop := Claim7.holds Tryd.pinned (.plain (OpenSpec.upto framesPlaceSpec)) framesPlaceUptoCard

/-- THE SECOND FORM's CARD OF 'limewashlaw07.FramesBursts'. -/
def framesBurstsUptoCard : Claim7 := { stood := { row := framesBurstsUptoRow, standIns := [], harness := (true, "57b5ffc38387059758c272cf830c417b2dc967de3de86d0792d043b9d34b1946"), looks := false }, kinds := [], alts := [], laidByText := true, laidKinds := [.data], laidTests := true, laidLooks := .later }
def FramesBurstsUptoCardSaid : Prop := Claim7.holds Tryd.pinned (.plain (OpenSpec.upto framesBurstsSpec)) framesBurstsUptoCard

/-- THE SECOND FORM's CARD OF 'limewashlaw07.FramesKnown'. -/
def framesKnownUptoCard : Claim7 := { stood := { row := framesKnownUptoRow, standIns := [], harness := (true, "57b5ffc38387059758c272cf830c417b2dc967de3de86d0792d043b9d34b1946"), looks := false }, kinds := [], alts := [], laidByText := true, laidKinds := [.data], laidTests := true, laidLooks := .later }
def FramesKnownUptoCardSaid : Prop := Claim7.holds Tryd.pinned (.plain (OpenSpec.upto framesKnownSpec)) framesKnownUptoCard

/-- THE SECOND FORM's CARD OF 'limewashlaw07.FramesDevices'. -/
def framesDevicesUptoCard : Claim7 := { stood := { row := framesDevicesUptoRow, standIns := [], harness := (true, "57b5ffc38387059758c272cf830c417b2dc967de3de86d0792d043b9d34b1946"), looks := false }, kinds := [], alts := [], laidByText := true, laidKinds := [.data], laidTests := true, laidLooks := .later }
def FramesDevicesUptoCardSaid : Prop := Claim7.holds Tryd.pinned (.plain (OpenSpec.upto framesDevicesSpec)) framesDevicesUptoCard
end Rows
end Go.Proofs.YtghaaonghlfepaaDoor
