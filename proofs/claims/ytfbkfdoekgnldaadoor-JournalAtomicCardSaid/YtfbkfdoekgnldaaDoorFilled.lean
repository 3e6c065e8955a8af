/- The walk of Filled. -/
import Derived.Test.YtfbkfdoekgnldaaDoorDevW2
namespace Go.Proofs.YtfbkfdoekgnldaaDoor
open Go.RowKit
attribute [local go_sem] Oper.semAt_some
def fillK (b : UInt8) : Nat → Sector
  | 0 => zsec
  | k + 1 => sput (fillK b k) k b
/-- a sector of bytes that are all one, the first one another one -/
def fillS (a b : UInt8) : Sector := sput (fillK b 128) 0 a
theorem results_sec1 {fn : Func} {p : Tmp} (h : fn.results = #[.cell p 64]) (tmps : Array Value) (w : World) (g : Nat) (s : Sector)
    (hp : tmps.getD p undef = .pointer (some ⟨g, 0, none⟩)) (hg : w.heap[g]? = some (.cells (sec s) 64 (0, 0))) :
    (results fn tmps).run Tryd.prog w = .ok (.agg (sec s)) w := by
  have hp' : tmps[p]?.getD undef = .pointer (some ⟨g, 0, none⟩) := by simpa using hp
  simp [results, h, hp', asAddr, run_loadVar_sector w g s hg]
end Go.Proofs.YtfbkfdoekgnldaaDoor
