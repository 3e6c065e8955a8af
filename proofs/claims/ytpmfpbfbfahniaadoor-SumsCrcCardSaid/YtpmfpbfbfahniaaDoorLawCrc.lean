/- The walk of the statement SumsCrc. -/
import Derived.Test.YtpmfpbfbfahniaaDoorShown
namespace Go.Proofs.YtpmfpbfbfahniaaDoor
open Go.RowKit
open Lime
attribute [local go_sem] g_eq32 g_ne32
set_option maxRecDepth 100000 in
set_option maxHeartbeats 1000000 in
theorem crc_walk (h : BitVec 32) (cap : Nat) (a : Option Addr) (l : List UInt8) (w : World) (hb : BytesAt w a l) (hh : HalfLaid w) :
    Calls Tryd.prog 3 #[.int .u32 (vu h), .slice a l.length cap] w fun e w' => e = .returned (.bool true) ∧ Below w.heap.size w w' := by
  have hm := hb.1
  by_cases hl : 2000 < l.length
  · have qd : decide (2000 < (l.length : Int)) = true := by simp; omega
    go_enter Tryd.func3, Tryd.ntmps3
    go_wp2_with fail
    refine (shown_any w hh).mono ?_
    rintro e w1 ⟨rfl, hB⟩
    go_wp2
    go_ret
    exact ⟨rfl, hB⟩
  · have qd : decide (2000 < (l.length : Int)) = false := by simp; omega
    go_enter Tryd.func3, Tryd.ntmps3
    go_wp2_with fail
    refine (crc_any cap a l w hb hh).mono ?_
    rintro e w1 ⟨rfl, hB⟩
    go_wp2_with fail
    refine (refcrc_any cap a l w1 (hb.below hB)).mono ?_
    rintro e w1 ⟨rfl, rfl⟩
    go_wp2_with fail
    refine (on_any h cap a l w1 (hb.below hB) (hh.below hB)).mono ?_
    rintro e w2 ⟨rfl, hB2⟩
    have c2 := hB.trans (hB2.mono hB.size)
    clear hB hB2
    go_wp2_with fail
    refine (refon_any h cap a l w2 (hb.below c2)).mono ?_
    rintro e w2 ⟨rfl, rfl⟩
    go_wp2_with fail
    refine (shown_any w2 (hh.below c2)).mono ?_
    rintro e w3 ⟨rfl, hB⟩
    go_wp2
    go_ret
    exact ⟨rfl, c2.trans (hB.mono c2.size)⟩
end Go.Proofs.YtpmfpbfbfahniaaDoor
