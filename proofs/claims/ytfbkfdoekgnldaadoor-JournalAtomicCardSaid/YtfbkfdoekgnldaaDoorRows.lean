/-
  NARROWER THAN 'FOR EVERY INPUT', by the rows' own cells (each row's printed sentence says how): JournalTwice: laid · JournalNumbers: laid · JournalTorn: laid · JournalKnown: laid · JournalCosts: laid · JournalAtomic: laid.
  DERIVED. THE GIVEN ROWS OF THIS SEAT. 6 by the template 'for every input the law returns true; each argument reads behind the call as it read before'; 0 by the template 'total and deterministic' (their statements: YtfbkfdoekgnldaaDoorTotals.lean).
  GIVEN WITH THE SEED: the statements are not yours to turn. If you find one false, say at which input.
  Laid BY PROGRAM, IN A SANDBOX (cutbox-rows.mjs): the forced cells as the released guide's own fill.sh prints them over the translation b510eb91725dcd40… (all of the seat's roots in one cut). By AI agents, Wed Nov 11 2026. No macro, syntax, notation, axiom, sorry.
-/
import Derived.Test.YtfbkfdoekgnldaaDoorChecked
import GoSem.Claim
import GoSem.ClaimJoined
import GoSem.ClaimMapViews
import Derived.JoinedTies
import Derived.KernelRfl
namespace Go.Proofs.YtfbkfdoekgnldaaDoor
/- THE CELL 'sum', in the pinned program and in every row, IS THE sha256 OF THE DUMP (.gsa) THAT YtfbkfdoekgnldaaDoorProg.lean LOADS. Nothing in Lean hashes anything: it is a label: what it is worth is what the hold of that sum in a sandbox is worth. -/
noncomputable def Tryd.pinned : Pinned := { name := "ytfbkfdoekgnldaadoor", sum := "b510eb91725dcd40e32b89529a963c12c126d5228b893484f2e61a032b8e9a41", checked := Tryd.checked }
namespace Rows
def none {H : Type} : Left H := { results := [], args := [] }

/- WHAT THE LISTED PACKAGE-LEVEL VARIABLES READ AS WHEN THE CALL BEGINS. Each datum BY PROGRAM (the guide's laid-datum.mjs) off the statement by which the dump's own 'gosem.cut.vars' lays the variable. In a bare row this is a premise. The card (YtfbkfdoekgnldaaDoorCards.lean) ties it to the program's text. -/
def laid_limewash_sums_half {H : Type} : DataW H := .agg [.lit (.int .u32 0), .lit (.int .u32 498536548), .lit (.int .u32 997073096), .lit (.int .u32 651767980), .lit (.int .u32 1994146192), .lit (.int .u32 1802195444), .lit (.int .u32 1303535960), .lit (.int .u32 1342533948), .lit (.int .u32 3988292384), .lit (.int .u32 4027552580), .lit (.int .u32 3604390888), .lit (.int .u32 3412177804), .lit (.int .u32 2607071920), .lit (.int .u32 2262029012), .lit (.int .u32 2685067896), .lit (.int .u32 3183342108)]

/-- 'limewashlaw09.JournalTwice': WHATEVER THE INPUT: true; the input reads as it did. -/
def journalTwiceSpec : ChangeSpec := { name := "journalTwice", fn := fun _ => fun
  | [d1, d2] => { results := [.lit (.bool true)], args := [d1, d2] }
  | _ => none }
def journalTwiceRow : OpenClaim := { program := "ytfbkfdoekgnldaadoor", sum := "b510eb91725dcd40e32b89529a963c12c126d5228b893484f2e61a032b8e9a41", func := "limewash/limewashlaw09.JournalTwice", spec := "journalTwice", unfollowed := true, recurses := true, named := ["limewash/sums.half"], apart := false, laid := [("limewash/sums.half", laid_limewash_sums_half)] }
def JournalTwiceSaid : Prop := journalTwiceRow.holds Tryd.pinned (OpenSpec.ofChange journalTwiceSpec)

/-- ITS FALSE NEIGHBOUR: 'it returns false'. Refute it at one input. -/
def journalTwiceWrong : ChangeSpec := { name := "journalTwice", fn := fun _ => fun
  | [d1, d2] => { results := [.lit (.bool false)], args := [d1, d2] }
  | _ => none }
def JournalTwiceWrongFalsely : Prop := journalTwiceRow.holds Tryd.pinned (OpenSpec.ofChange journalTwiceWrong)

/-- 'limewashlaw09.JournalNumbers': WHATEVER THE INPUT: true; the input reads as it did. -/
def journalNumbersSpec : ChangeSpec := { name := "journalNumbers", fn := fun _ => fun
  | [d] => { results := [.lit (.bool true)], args := [d] }
  | _ => none }
def journalNumbersRow : OpenClaim := { program := "ytfbkfdoekgnldaadoor", sum := "b510eb91725dcd40e32b89529a963c12c126d5228b893484f2e61a032b8e9a41", func := "limewash/limewashlaw09.JournalNumbers", spec := "journalNumbers", unfollowed := true, recurses := true, named := ["limewash/sums.half"], apart := false, laid := [("limewash/sums.half", laid_limewash_sums_half)] }
def JournalNumbersSaid : Prop := journalNumbersRow.holds Tryd.pinned (OpenSpec.ofChange journalNumbersSpec)

/-- ITS FALSE NEIGHBOUR: 'it returns false'. Refute it at one input. -/
def journalNumbersWrong : ChangeSpec := { name := "journalNumbers", fn := fun _ => fun
  | [d] => { results := [.lit (.bool false)], args := [d] }
  | _ => none }
def JournalNumbersWrongFalsely : Prop := journalNumbersRow.holds Tryd.pinned (OpenSpec.ofChange journalNumbersWrong)

/-- 'limewashlaw09.JournalTorn': WHATEVER THE INPUT: true; the input reads as it did. -/
def journalTornSpec : ChangeSpec := { name := "journalTorn", fn := fun _ => fun
  | [d1, d2] => { results := [.lit (.bool true)], args := [d1, d2] }
  | _ => none }
def journalTornRow : OpenClaim := { program := "ytfbkfdoekgnldaadoor", sum := "b510eb91725dcd40e32b89529a963c12c126d5228b893484f2e61a032b8e9a41", func := "limewash/limewashlaw09.JournalTorn", spec := "journalTorn", unfollowed := true, recurses := true, named := ["limewash/sums.half"], apart := false, laid := [("limewash/sums.half", laid_limewash_sums_half)] }
def JournalTornSaid : Prop := journalTornRow.holds Tryd.pinned (OpenSpec.ofChange journalTornSpec)

/-- ITS FALSE NEIGHBOUR: 'it returns false'. Refute it at one input. -/
def journalTornWrong : ChangeSpec := { name := "journalTorn", fn := fun _ => fun
  | [d1, d2] => { results := [.lit (.bool false)], args := [d1, d2] }
  | _ => none }
def JournalTornWrongFalsely : Prop := journalTornRow.holds Tryd.pinned (OpenSpec.ofChange journalTornWrong)

/-- 'limewashlaw09.JournalKnown': WHATEVER THE INPUT: true; the input reads as it did. -/
def journalKnownSpec : ChangeSpec := { name := "journalKnown", fn := fun _ => fun
  | [] => { results := [.lit (.bool true)], args := [] }
  | _ => none }
def journalKnownRow : OpenClaim := { program := "ytfbkfdoekgnldaadoor", sum := "b510eb91725dcd40e32b89529a963c12c126d5228b893484f2e61a032b8e9a41", func := "limewash/limewashlaw09.JournalKnown", spec := "journalKnown", unfollowed := true, recurses := true, named := ["limewash/sums.half"], apart := false, laid := [("limewash/sums.half", laid_limewash_sums_half)] }
def JournalKnownSaid : Prop := journalKnownRow.holds Tryd.pinned (OpenSpec.ofChange journalKnownSpec)

/-- ITS FALSE NEIGHBOUR: 'it returns false'. Refute it at one input. -/
def journalKnownWrong : ChangeSpec := { name := "journalKnown", fn := fun _ => fun
  | [] => { results := [.lit (.bool false)], args := [] }
  | _ => none }
def JournalKnownWrongFalsely : Prop := journalKnownRow.holds Tryd.pinned (OpenSpec.ofChange journalKnownWrong)

/-- 'limewashlaw09.JournalCosts': WHATEVER THE INPUT: true; the input reads as it did. -/
def journalCostsSpec : ChangeSpec := { name := "journalCosts", fn := fun _ => fun
  | [d1, d2, d3] => { results := [.lit (.bool true)], args := [d1, d2, d3] }
  | _ => none }
def journalCostsRow : OpenClaim := { program := "ytfbkfdoekgnldaadoor", sum := "b510eb91725dcd40e32b89529a963c12c126d5228b893484f2e61a032b8e9a41", func := "limewash/limewashlaw09.JournalCosts", spec := "journalCosts", unfollowed := true, recurses := true, named := ["limewash/sums.half"], apart := false, laid := [("limewash/sums.half", laid_limewash_sums_half)] }
def JournalCostsSaid : Prop := journalCostsRow.holds Tryd.pinned (OpenSpec.ofChange journalCostsSpec)

/-- ITS FALSE NEIGHBOUR: 'it returns false'. Refute it at one input. -/
def journalCostsWrong : ChangeSpec := { name := "journalCosts", fn := fun _ => fun
  | [d1, d2, d3] => { results := [.lit (.bool false)], args := [d1, d2, d3] }
  | _ => none }
def JournalCostsWrongFalsely : Prop := journalCostsRow.holds Tryd.pinned (OpenSpec.ofChange journalCostsWrong)

/-- 'limewashlaw09.JournalAtomic': WHATEVER THE INPUT: true; the input reads as it did. -/
def journalAtomicSpec : ChangeSpec := { name := "journalAtomic", fn := fun _ => fun
  | [d] => { results := [.lit (.bool true)], args := [d] }
  | _ => none }
def journalAtomicRow : OpenClaim := { program := "ytfbkfdoekgnldaadoor", sum := "b510eb91725dcd40e32b89529a963c12c126d5228b893484f2e61a032b8e9a41", func := "limewash/limewashlaw09.JournalAtomic", spec := "journalAtomic", unfollowed := true, recurses := true, named := ["limewash/sums.half"], apart := false, laid := [("limewash/sums.half", laid_limewash_sums_half)] }
def JournalAtomicSaid : Prop := journalAtomicRow.holds Tryd.pinned (OpenSpec.ofChange journalAtomicSpec)

/-- ITS FALSE NEIGHBOUR: 'it returns false'. Refute it at one input. -/
def journalAtomicWrong : ChangeSpec := { name := "journalAtomic", fn := fun _ => fun
  | [d] => { results := [.lit (.bool false)], args := [d] }
  | _ => none }
def JournalAtomicWrongFalsely : Prop := journalAtomicRow.holds Tryd.pinned (OpenSpec.ofChange journalAtomicWrong)

/- THE SECOND FORM. 'bulk': how many values and letters a reading holds, each counted each time it is reached (what is shared counts as often as it is met; a slice's spare places count too). A statement '..UptoSaid' is the law's where the arguments, and the package variables that the reading takes, are together of bulk at most 1048576: NARROWER than '..Said'. Prove '..Said' where nothing that the law and all that it calls make is longer than what came in: it says more and counts as full. Else prove '..UptoSaid'. A law counts once. -/
mutual
def uptoBulk {H : Type} : DataW H → Nat
  | .lit (.string bytes) => bytes.length + 1
  | .lit _ => 1
  | .nil => 1
  | .ptr d => uptoBulk d + 1
  | .slice elems spare => uptoBulkAll elems + uptoBulkAll spare + 1
  | .agg parts => uptoBulkAll parts + 1
  | .iface _ d => uptoBulk d + 1
  | .map entries => uptoBulkEntries entries + 1
  | .held _ => 1
def uptoBulkAll {H : Type} : List (DataW H) → Nat
  | [] => 0
  | d :: r => uptoBulk d + uptoBulkAll r
def uptoBulkEntries {H : Type} : List (Lit × DataW H) → Nat
  | [] => 0
  | x :: r => uptoBulkEntry x + uptoBulkEntries r
def uptoBulkEntry {H : Type} : Lit × DataW H → Nat
  | (.string bytes, d) => bytes.length + uptoBulk d + 1
  | (_, d) => uptoBulk d + 1
 end
def uptoSmall : (H : Type) → List (DataW H) → Bool := fun _ ds => decide (uptoBulkAll ds ≤ 1048576)
def OpenSpec.upto (s : _root_.Go.ChangeSpec) : _root_.Go.OpenSpec := { _root_.Go.OpenSpec.ofChange s with cond := some uptoSmall }

/-- 'limewashlaw09.JournalTwice', WHERE WHAT IT READS IS OF BULK AT MOST 1048576: true; the input reads as it did. -/
def journalTwiceUptoRow : OpenClaim := { program := "ytfbkfdoekgnldaadoor", sum := "b510eb91725dcd40e32b89529a963c12c126d5228b893484f2e61a032b8e9a41", func := "limewash/limewashlaw09.JournalTwice", spec := "journalTwice", unfollowed := true, recurses := true, named := ["limewash/sums.half"], apart := false, laid := [("limewash/sums.half", laid_limewash_sums_half)], narrowed := true }
def JournalTwiceUptoSaid : Prop := journalTwiceUptoRow.holds Tryd.pinned (OpenSpec.upto journalTwiceSpec)

/-- 'limewashlaw09.JournalNumbers', WHERE WHAT IT READS IS OF BULK AT MOST 1048576: true; the input reads as it did. -/
def journalNumbersUptoRow : OpenClaim := { program := "ytfbkfdoekgnldaadoor", sum := "b510eb91725dcd40e32b89529a963c12c126d5228b893484f2e61a032b8e9a41", func := "limewash/limewashlaw09.JournalNumbers", spec := "journalNumbers", unfollowed := true, recurses := true, named := ["limewash/sums.half"], apart := false, laid := [("limewash/sums.half", laid_limewash_sums_half)], narrowed := true }
def JournalNumbersUptoSaid : Prop := journalNumbersUptoRow.holds Tryd.pinned (OpenSpec.upto journalNumbersSpec)

/-- 'limewashlaw09.JournalTorn', WHERE WHAT IT READS IS OF BULK AT MOST 1048576: true; the input reads as it did. -/
def journalTornUptoRow : OpenClaim := { program := "ytfbkfdoekgnldaadoor", sum := "b510eb91725dcd40e32b89529a963c12c126d5228b893484f2e61a032b8e9a41", func := "limewash/limewashlaw09.JournalTorn", spec := "journalTorn", unfollowed := true, recurses := true, named := ["limewash/sums.half"], apart := false, laid := [("limewash/sums.half", laid_limewash_sums_half)], narrowed := true }
def JournalTornUptoSaid : Prop := journalTornUptoRow.holds Tryd.pinned (OpenSpec.upto journalTornSpec)

/-- 'limewashlaw09.JournalKnown', WHERE WHAT IT READS IS OF BULK AT MOST 1048576: true; the input reads as it did. -/
def journalKnownUptoRow : OpenClaim := { program := "ytfbkfdoekgnldaadoor", sum := "b510eb91725dcd40e32b89529a963c12c126d5228b893484f2e61a032b8e9a41", func := "limewash/limewashlaw09.JournalKnown", spec := "journalKnown", unfollowed := true, recurses := true, named := ["limewash/sums.half"], apart := false, laid := [("limewash/sums.half", laid_limewash_sums_half)], narrowed := true }
def JournalKnownUptoSaid : Prop := journalKnownUptoRow.holds Tryd.pinned (OpenSpec.upto journalKnownSpec)

/-- 'limewashlaw09.JournalCosts', WHERE WHAT IT READS IS OF BULK AT MOST 1048576: true; the input reads as it did. -/
def journalCostsUptoRow : OpenClaim := { program := "ytfbkfdoekgnldaadoor", sum := "b510eb91725dcd40e32b89529a963c12c126d5228b893484f2e61a032b8e9a41", func := "limewash/limewashlaw09.JournalCosts", spec := "journalCosts", unfollowed := true, recurses := true, named := ["limewash/sums.half"], apart := false, laid := [("limewash/sums.half", laid_limewash_sums_half)], narrowed := true }
def JournalCostsUptoSaid : Prop := journalCostsUptoRow.holds Tryd.pinned (OpenSpec.upto journalCostsSpec)

/-- 'limewashlaw09.JournalAtomic', WHERE WHAT IT READS IS OF BULK AT MOST 1048576: true; the input reads as it did. -/
def journalAtomicUptoRow : OpenClaim := { program := "ytfbkfdoekgnldaadoor", sum := "b510eb91725dcd40e32b89529a963c12c126d5228b893484f2e61a032b8e9a41", func := "limewash/limewashlaw09.JournalAtomic", spec := "journalAtomic", unfollowed := true, recurses := true, named := ["limewash/sums.half"], apart := false, laid := [("limewash/sums.half", laid_limewash_sums_half)], narrowed := true }
def JournalAtomicUptoSaid : Prop := journalAtomicUptoRow.holds Tryd.pinned (OpenSpec.upto journalAtomicSpec)

end Rows
end Go.Proofs.YtfbkfdoekgnldaaDoor
