/-
  NARROWER THAN 'FOR EVERY INPUT', by the rows' own cells (each row's printed sentence says how): FramesSeals: laid · FramesOpens: laid · FramesBack: laid · FramesPlace: laid · FramesBursts: laid · FramesKnown: laid · FramesDevices: laid.
  DERIVED. THE GIVEN ROWS OF THIS SEAT. 7 by the template 'for every input the law returns true; each argument reads behind the call as it read before'; 0 by the template 'total and deterministic' (their statements: YtghaaonghlfepaaDoorTotals.lean).
  GIVEN WITH THE SEED: the statements are not yours to turn. If you find one false, say at which input.
  Laid BY PROGRAM, IN A SANDBOX (cutbox-rows.mjs): the forced cells as the released guide's own fill.sh prints them over the translation 1176407ce47a853f… (all of the seat's roots in one cut). By AI agents, Wed Nov 11 2026. No macro, syntax, notation, axiom, sorry.
-/
import Derived.Test.YtghaaonghlfepaaDoorChecked
import GoSem.Claim
import GoSem.ClaimJoined
import GoSem.ClaimMapViews
import Derived.JoinedTies
import Derived.KernelRfl
namespace Go.Proofs.YtghaaonghlfepaaDoor
/- THE CELL 'sum', in the pinned program and in every row, IS THE sha256 OF THE DUMP (.gsa) THAT YtghaaonghlfepaaDoorProg.lean LOADS. Nothing in Lean hashes anything: it is a label: what it is worth is what the hold of that sum in a sandbox is worth. -/
noncomputable def Tryd.pinned : Pinned := { name := "ytghaaonghlfepaadoor", sum := "1176407ce47a853f18a5a8f80dafa60dea6ff2e6ddea90b0450e58b9deaf126f", checked := Tryd.checked }
namespace Rows
def none {H : Type} : Left H := { results := [], args := [] }

/- WHAT THE LISTED PACKAGE-LEVEL VARIABLES READ AS WHEN THE CALL BEGINS. Each datum BY PROGRAM (the guide's laid-datum.mjs) off the statement by which the dump's own 'gosem.cut.vars' lays the variable. In a bare row this is a premise. The card (YtghaaonghlfepaaDoorCards.lean) ties it to the program's text. -/
def laid_limewash_sums_half {H : Type} : DataW H := .agg [.lit (.int .u32 0), .lit (.int .u32 498536548), .lit (.int .u32 997073096), .lit (.int .u32 651767980), .lit (.int .u32 1994146192), .lit (.int .u32 1802195444), .lit (.int .u32 1303535960), .lit (.int .u32 1342533948), .lit (.int .u32 3988292384), .lit (.int .u32 4027552580), .lit (.int .u32 3604390888), .lit (.int .u32 3412177804), .lit (.int .u32 2607071920), .lit (.int .u32 2262029012), .lit (.int .u32 2685067896), .lit (.int .u32 3183342108)]

/-- 'limewashlaw07.FramesSeals': WHATEVER THE INPUT: true; the input reads as it did. -/
def framesSealsSpec : ChangeSpec := { name := "framesSeals", fn := fun _ => fun
  | [d1, d2, d3] => { results := [.lit (.bool true)], args := [d1, d2, d3] }
  | _ => none }
def framesSealsRow : OpenClaim := { program := "ytghaaonghlfepaadoor", sum := "1176407ce47a853f18a5a8f80dafa60dea6ff2e6ddea90b0450e58b9deaf126f", func := "limewash/limewashlaw07.FramesSeals", spec := "framesSeals", unfollowed := true, recurses := true, named := ["limewash/sums.half"], apart := false, laid := [("limewash/sums.half", laid_limewash_sums_half)] }
def FramesSealsSaid : Prop := framesSealsRow.holds Tryd.pinned (OpenSpec.ofChange framesSealsSpec)

/-- ITS FALSE NEIGHBOUR: 'it returns false'. Refute it at one input. -/
def framesSealsWrong : ChangeSpec := { name := "framesSeals", fn := fun _ => fun
  | [d1, d2, d3] => { results := [.lit (.bool false)], args := [d1, d2, d3] }
  | _ => none }
def FramesSealsWrongFalsely : Prop := framesSealsRow.holds Tryd.pinned (OpenSpec.ofChange framesSealsWrong)

/-- 'limewashlaw07.FramesOpens': WHATEVER THE INPUT: true; the input reads as it did. -/
def framesOpensSpec : ChangeSpec := { name := "framesOpens", fn := fun _ => fun
  | [d1, d2] => { results := [.lit (.bool true)], args := [d1, d2] }
  | _ => none }
def framesOpensRow : OpenClaim := { program := "ytghaaonghlfepaadoor", sum := "1176407ce47a853f18a5a8f80dafa60dea6ff2e6ddea90b0450e58b9deaf126f", func := "limewash/limewashlaw07.FramesOpens", spec := "framesOpens", unfollowed := true, recurses := true, named := ["limewash/sums.half"], apart := false, laid := [("limewash/sums.half", laid_limewash_sums_half)] }
def FramesOpensSaid : Prop := framesOpensRow.holds Tryd.pinned (OpenSpec.ofChange framesOpensSpec)

/-- ITS FALSE NEIGHBOUR: 'it returns false'. Refute it at one input. -/
def framesOpensWrong : ChangeSpec := { name := "framesOpens", fn := fun _ => fun
  | [d1, d2] => { results := [.lit (.bool false)], args := [d1, d2] }
  | _ => none }
def FramesOpensWrongFalsely : Prop := framesOpensRow.holds Tryd.pinned (OpenSpec.ofChange framesOpensWrong)

/-- 'limewashlaw07.FramesBack': WHATEVER THE INPUT: true; the input reads as it did. -/
def framesBackSpec : ChangeSpec := { name := "framesBack", fn := fun _ => fun
  | [d1, d2] => { results := [.lit (.bool true)], args := [d1, d2] }
  | _ => none }
def framesBackRow : OpenClaim := { program := "ytghaaonghlfepaadoor", sum := "1176407ce47a853f18a5a8f80dafa60dea6ff2e6ddea90b0450e58b9deaf126f", func := "limewash/limewashlaw07.FramesBack", spec := "framesBack", unfollowed := true, recurses := true, named := ["limewash/sums.half"], apart := false, laid := [("limewash/sums.half", laid_limewash_sums_half)] }
def FramesBackSaid : Prop := framesBackRow.holds Tryd.pinned (OpenSpec.ofChange framesBackSpec)

/-- ITS FALSE NEIGHBOUR: 'it returns false'. Refute it at one input. -/
def framesBackWrong : ChangeSpec := { name := "framesBack", fn := fun _ => fun
  | [d1, d2] => { results := [.lit (.bool false)], args := [d1, d2] }
  | _ => none }
def FramesBackWrongFalsely : Prop := framesBackRow.holds Tryd.pinned (OpenSpec.ofChange framesBackWrong)

/-- 'limewashlaw07.FramesPlace': WHATEVER THE INPUT: true; the input reads as it did. -/
def framesPlaceSpec : ChangeSpec := { name := "framesPlace", fn := fun _ => fun
  | [d1, d2] => { results := [.lit (.bool true)], args := [d1, d2] }
  | _ => none }
def framesPlaceRow : OpenClaim := { program := "ytghaaonghlfepaadoor", sum := "1176407ce47a853f18a5a8f80dafa60dea6ff2e6ddea90b0450e58b9deaf126f", func := "limewash/limewashlaw07.FramesPlace", spec := "framesPlace", unfollowed := true, recurses := true, named := ["limewash/sums.half"], apart := false, laid := [("limewash/sums.half", laid_limewash_sums_half)] }
def FramesPlaceSaid : Prop := framesPlaceRow.holds Tryd.pinned (OpenSpec.ofChange framesPlaceSpec)

/-- ITS FALSE NEIGHBOUR: 'it returns false'. Refute it at one input. -/
def framesPlaceWrong : ChangeSpec := { name := "framesPlace", fn := fun _ => fun
  | [d1, d2] => { results := [.lit (.bool false)], args := [d1, d2] }
  | _ => none }
def FramesPlaceWrongFalsely : Prop := framesPlaceRow.holds Tryd.pinned (OpenSpec.ofChange framesPlaceWrong)

/-- 'limewashlaw07.FramesBursts': WHATEVER THE INPUT: true; the input reads as it did. -/
def framesBurstsSpec : ChangeSpec := { name := "framesBursts", fn := fun _ => fun
  | [d1, d2, d3] => { results := [.lit (.bool true)], args := [d1, d2, d3] }
  | _ => none }
def framesBurstsRow : OpenClaim := { program := "ytghaaonghlfepaadoor", sum := "1176407ce47a853f18a5a8f80dafa60dea6ff2e6ddea90b0450e58b9deaf126f", func := "limewash/limewashlaw07.FramesBursts", spec := "framesBursts", unfollowed := true, recurses := true, named := ["limewash/sums.half"], apart := false, laid := [("limewash/sums.half", laid_limewash_sums_half)] }
def FramesBurstsSaid : Prop := framesBurstsRow.holds Tryd.pinned (OpenSpec.ofChange framesBurstsSpec)

/-- ITS FALSE NEIGHBOUR: 'it returns false'. Refute it at one input. -/
def framesBurstsWrong : ChangeSpec := { name := "framesBursts", fn := fun _ => fun
  | [d1, d2, d3] => { results := [.lit (.bool false)], args := [d1, d2, d3] }
  | _ => none }
def FramesBurstsWrongFalsely : Prop := framesBurstsRow.holds Tryd.pinned (OpenSpec.ofChange framesBurstsWrong)

/-- 'limewashlaw07.FramesKnown': WHATEVER THE INPUT: true; the input reads as it did. -/
def framesKnownSpec : ChangeSpec := { name := "framesKnown", fn := fun _ => fun
  | [] => { results := [.lit (.bool true)], args := [] }
  | _ => none }
def framesKnownRow : OpenClaim := { program := "ytghaaonghlfepaadoor", sum := "1176407ce47a853f18a5a8f80dafa60dea6ff2e6ddea90b0450e58b9deaf126f", func := "limewash/limewashlaw07.FramesKnown", spec := "framesKnown", unfollowed := true, recurses := true, named := ["limewash/sums.half"], apart := false, laid := [("limewash/sums.half", laid_limewash_sums_half)] }
def FramesKnownSaid : Prop := framesKnownRow.holds Tryd.pinned (OpenSpec.ofChange framesKnownSpec)

/-- ITS FALSE NEIGHBOUR: 'it returns false'. Refute it at one input. -/
def framesKnownWrong : ChangeSpec := { name := "framesKnown", fn := fun _ => fun
  | [] => { results := [.lit (.bool false)], args := [] }
  | _ => none }
def FramesKnownWrongFalsely : Prop := framesKnownRow.holds Tryd.pinned (OpenSpec.ofChange framesKnownWrong)

/-- 'limewashlaw07.FramesDevices': WHATEVER THE INPUT: true; the input reads as it did. -/
def framesDevicesSpec : ChangeSpec := { name := "framesDevices", fn := fun _ => fun
  | [d] => { results := [.lit (.bool true)], args := [d] }
  | _ => none }
def framesDevicesRow : OpenClaim := { program := "ytghaaonghlfepaadoor", sum := "1176407ce47a853f18a5a8f80dafa60dea6ff2e6ddea90b0450e58b9deaf126f", func := "limewash/limewashlaw07.FramesDevices", spec := "framesDevices", unfollowed := true, recurses := true, named := ["limewash/sums.half"], apart := false, laid := [("limewash/sums.half", laid_limewash_sums_half)] }
def FramesDevicesSaid : Prop := framesDevicesRow.holds Tryd.pinned (OpenSpec.ofChange framesDevicesSpec)

/-- ITS FALSE NEIGHBOUR: 'it returns false'. Refute it at one input. -/
def framesDevicesWrong : ChangeSpec := { name := "framesDevices", fn := fun _ => fun
  | [d] => { results := [.lit (.bool false)], args := [d] }
  | _ => none }
def FramesDevicesWrongFalsely : Prop := framesDevicesRow.holds Tryd.pinned (OpenSpec.ofChange framesDevicesWrong)

/- THE SECOND FORM. 'bulk': how many values and letters a reading holds, each counted each time it is reached (what is shared counts as often as it is met; a slice's spare places count too). A statement '..UptoSaid' is the law's where the arguments, and the package variables that the reading takes, are together of bulk at most 1048576: NARROWER than '..Said'. Prove '..Said' where nothing that the law and all that it calls make is longer than what came in: it says more and counts as full. Else prove '..UptoSaid'. A law counts once. -/
mutual
def uptoBulk {H : Type} : DataW H → Nat
  | .lit (.string bytes) => bytes.length + 1
  | .lit _ => 1
  | .nil => 1
  | .ptr d => uptoBulk d + 1
  | .slice elems spare => uptoBulkAll elems + uptoBulkAll spare + 1
  | .agg parts => uptoBulkAll parts + 1
  | .iface _ d => uptoBulk d + 1
  | .map entries => uptoBulkEntries entries + 1
  | .held _ => 1
def uptoBulkAll {H : Type} : List (DataW H) → Nat
  | [] => 0
  | d :: r => uptoBulk d + uptoBulkAll r
def uptoBulkEntries {H : Type} : List (Lit × DataW H) → Nat
  | [] => 0
  | x :: r => uptoBulkEntry x + uptoBulkEntries r
def uptoBulkEntry {H : Type} : Lit × DataW H → Nat
  | (.string bytes, d) => bytes.length + uptoBulk d + 1
  | (_, d) => uptoBulk d + 1
 end
def uptoSmall : (H : Type) → List (DataW H) → Bool := fun _ ds => decide (uptoBulkAll ds ≤ 1048576)
def OpenSpec.upto (s : _root_.Go.ChangeSpec) : _root_.Go.OpenSpec := { _root_.Go.OpenSpec.ofChange s with cond := some uptoSmall }

/-- 'limewashlaw07.FramesSeals', WHERE WHAT IT READS IS OF BULK AT MOST 1048576: true; the input reads as it did. -/
def framesSealsUptoRow : OpenClaim := { program := "ytghaaonghlfepaadoor", sum := "1176407ce47a853f18a5a8f80dafa60dea6ff2e6ddea90b0450e58b9deaf126f", func := "limewash/limewashlaw07.FramesSeals", spec := "framesSeals", unfollowed := true, recurses := true, named := ["limewash/sums.half"], apart := false, laid := [("limewash/sums.half", laid_limewash_sums_half)], narrowed := true }
def FramesSealsUptoSaid : Prop := framesSealsUptoRow.holds Tryd.pinned (OpenSpec.upto framesSealsSpec)

/-- 'limewashlaw07.FramesOpens', WHERE WHAT IT READS IS OF BULK AT MOST 1048576: true; the input reads as it did. -/
def framesOpensUptoRow : OpenClaim := { program := "ytghaaonghlfepaadoor", sum := "1176407ce47a853f18a5a8f80dafa60dea6ff2e6ddea90b0450e58b9deaf126f", func := "limewash/limewashlaw07.FramesOpens", spec := "framesOpens", unfollowed := true, recurses := true, named := ["limewash/sums.half"], apart := false, laid := [("limewash/sums.half", laid_limewash_sums_half)], narrowed := true }
def FramesOpensUptoSaid : Prop := framesOpensUptoRow.holds Tryd.pinned (OpenSpec.upto framesOpensSpec)

/-- 'limewashlaw07.FramesBack', WHERE WHAT IT READS IS OF BULK AT MOST 1048576: true; the input reads as it did. -/
def framesBackUptoRow : OpenClaim := { program := "ytghaaonghlfepaadoor", sum := "1176407ce47a853f18a5a8f80dafa60dea6ff2e6ddea90b0450e58b9deaf126f", func := "limewash/limewashlaw07.FramesBack", spec := "framesBack", unfollowed := true, recurses := true, named := ["limewash/sums.half"], apart := false, laid := [("limewash/sums.half", laid_limewash_sums_half)], narrowed := true }
def FramesBackUptoSaid : Prop := framesBackUptoRow.holds Tryd.pinned (OpenSpec.upto framesBackSpec)

/-- 'limewashlaw07.FramesPlace', WHERE WHAT IT READS IS OF BULK AT MOST 1048576: true; the input reads as it did. -/
def framesPlaceUptoRow : OpenClaim := { program := "ytghaaonghlfepaadoor", sum := "1176407ce47a853f18a5a8f80dafa60dea6ff2e6ddea90b0450e58b9deaf126f", func := "limewash/limewashlaw07.FramesPlace", spec := "framesPlace", unfollowed := true, recurses := true, named := ["limewash/sums.half"], apart := false, laid := [("limewash/sums.half", laid_limewash_sums_half)], narrowed := true }
def FramesPlaceUptoSaid : Prop := framesPlaceUptoRow.holds Tryd.pinned (OpenSpec.upto framesPlaceSpec)

/-- 'limewashlaw07.FramesBursts', WHERE WHAT IT READS IS OF BULK AT MOST 1048576: true; the input reads as it did. -/
def framesBurstsUptoRow : OpenClaim := { program := "ytghaaonghlfepaadoor", sum := "1176407ce47a853f18a5a8f80dafa60dea6ff2e6ddea90b0450e58b9deaf126f", func := "limewash/limewashlaw07.FramesBursts", spec := "framesBursts", unfollowed := true, recurses := true, named := ["limewash/sums.half"], apart := false, laid := [("limewash/sums.half", laid_limewash_sums_half)], narrowed := true }
def FramesBurstsUptoSaid : Prop := framesBurstsUptoRow.holds Tryd.pinned (OpenSpec.upto framesBurstsSpec)

/-- 'limewashlaw07.FramesKnown', WHERE WHAT IT READS IS OF BULK AT MOST 1048576: true; the input reads as it did. -/
def framesKnownUptoRow : OpenClaim := { program := "ytghaaonghlfepaadoor", sum := "1176407ce47a853f18a5a8f80dafa60dea6ff2e6ddea90b0450e58b9deaf126f", func := "limewash/limewashlaw07.FramesKnown", spec := "framesKnown", unfollowed := true, recurses := true, named := ["limewash/sums.half"], apart := false, laid := [("limewash/sums.half", laid_limewash_sums_half)], narrowed := true }
def FramesKnownUptoSaid : Prop := framesKnownUptoRow.holds Tryd.pinned (OpenSpec.upto framesKnownSpec)

/-- 'limewashlaw07.FramesDevices', WHERE WHAT IT READS IS OF BULK AT MOST 1048576: true; the input reads as it did. -/
def framesDevicesUptoRow : OpenClaim := { program := "ytghaaonghlfepaadoor", sum := "1176407ce47a853f18a5a8f80dafa60dea6ff2e6ddea90b0450e58b9deaf126f", func := "limewash/limewashlaw07.FramesDevices", spec := "framesDevices", unfollowed := true, recurses := true, named := ["limewash/sums.half"], apart := false, laid := [("limewash/sums.half", laid_limewash_sums_half)], narrowed := true }
def FramesDevicesUptoSaid : Prop := framesDevicesUptoRow.holds Tryd.pinned (OpenSpec.upto framesDevicesSpec)

end Rows
end Go.Proofs.YtghaaonghlfepaaDoor
