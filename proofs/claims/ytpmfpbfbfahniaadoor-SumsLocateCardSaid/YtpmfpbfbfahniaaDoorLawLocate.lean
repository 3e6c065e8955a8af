/- The walk of the statement SumsLocate. -/
import Derived.Test.YtpmfpbfbfahniaaDoorRefLoc
namespace Go.Proofs.YtpmfpbfbfahniaaDoor
open Go.RowKit
open Lime
attribute [local go_sem] g_eq32 g_ne32 g_eq8 g_ne8
theorem locAny_shape (l : List UInt8) (want : BitVec 32) : ∃ (x : Int) (y : UInt8) (z : Int), locAny l want = .tuple #[.int .i64 x, .int .u8 (vb y), .int .i64 z] := by
  unfold locAny
  split
  · exact ⟨0, 0, 3, rfl⟩
  split
  · exact ⟨0, 0, 8, rfl⟩
  unfold locV
  split
  · exact ⟨0, 0, 4, rfl⟩
  · exact ⟨_, _, _, rfl⟩
set_option maxRecDepth 100000 in
set_option maxHeartbeats 1000000 in
theorem locate_walk (cap : Nat) (a : Option Addr) (l : List UInt8) (want : BitVec 32) (w : World) (hb : BytesAt w a l) (hlc : l.length ≤ cap) (hh : HalfLaid w) :
    Calls Tryd.prog 4 #[.slice a l.length cap, .int .u32 (vu want)] w fun e w' => e = .returned (.bool true) ∧ Below w.heap.size w w' := by
  have hm := hb.1
  have hcase : (40 < l.length ∧ l.length ≤ 1000) ∨ (40 < l.length ∧ 1000 < l.length ∧ 1010 < l.length) ∨ (40 < l.length ∧ 1000 < l.length ∧ l.length ≤ 1010) ∨ l.length ≤ 40 := by omega
  rcases hcase with ⟨h1, h2⟩ | ⟨h1, h2, h3⟩ | ⟨h1, h2, h3⟩ | h1
  · have q1 : decide (40 < (l.length : Int)) = true := by simp; omega
    have q2 : decide ((l.length : Int) ≤ 1000) = true := by simp; omega
    go_enter Tryd.func4, Tryd.ntmps4
    go_wp2_with fail
    refine (shown_any w hh).mono ?_
    rintro e w1 ⟨rfl, hB⟩
    go_wp2
    go_ret
    exact ⟨rfl, hB⟩
  · have q1 : decide (40 < (l.length : Int)) = true := by simp; omega
    have q2 : decide ((l.length : Int) ≤ 1000) = false := by simp; omega
    have q3 : decide (1010 < (l.length : Int)) = true := by simp; omega
    go_enter Tryd.func4, Tryd.ntmps4
    go_wp2_with fail
    refine (shown_any w hh).mono ?_
    rintro e w1 ⟨rfl, hB⟩
    go_wp2
    go_ret
    exact ⟨rfl, hB⟩
  · have q1 : decide (40 < (l.length : Int)) = true := by simp; omega
    have q2 : decide ((l.length : Int) ≤ 1000) = false := by simp; omega
    have q3 : decide (1010 < (l.length : Int)) = false := by simp; omega
    obtain ⟨x, y, z, hv⟩ := locAny_shape l want
    have HV := Lib.hid hv
    clear hv
    go_enter Tryd.func4, Tryd.ntmps4
    go_wp2_with fail
    refine (locate_any cap a l want w hb hh).mono ?_
    rw [HV.out]
    rintro e w1 ⟨rfl, b1⟩
    go_wp2_with fail
    refine (refloc_any cap a l want w1 (hb.below b1) hlc).mono ?_
    rw [HV.out]
    rintro e w2 ⟨rfl, b2⟩
    have c2 := b1.trans (b2.mono b1.size)
    go_wp2_with fail
    refine (shown_any w2 (hh.below c2)).mono ?_
    rintro e w3 ⟨rfl, hB⟩
    go_wp2
    go_ret
    exact ⟨rfl, c2.trans (hB.mono c2.size)⟩
  · have q1 : decide (40 < (l.length : Int)) = false := by simp; omega
    have q3 : decide (1010 < (l.length : Int)) = false := by simp; omega
    obtain ⟨x, y, z, hv⟩ := locAny_shape l want
    have HV := Lib.hid hv
    clear hv
    go_enter Tryd.func4, Tryd.ntmps4
    go_wp2_with fail
    refine (locate_any cap a l want w hb hh).mono ?_
    rw [HV.out]
    rintro e w1 ⟨rfl, b1⟩
    go_wp2_with fail
    refine (refloc_any cap a l want w1 (hb.below b1) hlc).mono ?_
    rw [HV.out]
    rintro e w2 ⟨rfl, b2⟩
    have c2 := b1.trans (b2.mono b1.size)
    go_wp2_with fail
    refine (shown_any w2 (hh.below c2)).mono ?_
    rintro e w3 ⟨rfl, hB⟩
    go_wp2
    go_ret
    exact ⟨rfl, c2.trans (hB.mono c2.size)⟩
end Go.Proofs.YtpmfpbfbfahniaaDoor
