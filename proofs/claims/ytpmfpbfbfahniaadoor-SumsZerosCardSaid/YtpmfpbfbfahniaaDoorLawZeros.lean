/- The walk of the statement SumsZeros. -/
import Derived.Test.YtpmfpbfbfahniaaDoorShown
namespace Go.Proofs.YtpmfpbfbfahniaaDoor
open Go.RowKit
open Lime
attribute [local go_sem] g_eq32 g_ne32 g_eq8 g_ne8
theorem zerosV_shape (h : BitVec 32) (n : Int) : ∃ (x : BitVec 32) (z : Int), zerosV h n = .tuple #[.int .u32 (vu x), .int .i64 z] := by
  unfold zerosV
  split
  · exact ⟨_, _, rfl⟩
  · exact ⟨0#32, 7, rfl⟩
theorem combV_shape (a b : BitVec 32) (n : Int) : ∃ (x : BitVec 32) (z : Int), combV a b n = .tuple #[.int .u32 (vu x), .int .i64 z] := by
  unfold combV
  split
  · exact ⟨_, _, rfl⟩
  · exact ⟨0#32, 7, rfl⟩
set_option maxRecDepth 100000 in
set_option maxHeartbeats 1000000 in
theorem zeros_walk (a b : BitVec 32) (n : Int) (w : World) (hh : HalfLaid w) :
    Calls Tryd.prog 9 #[.int .u32 (vu a), .int .u32 (vu b), .int .i64 n] w fun e w' => e = .returned (.bool true) ∧ Below w.heap.size w w' := by
  have hcase : (5000 < n ∧ n ≤ 1000000) ∨ (5000 < n ∧ 1000000 < n) ∨ n ≤ 5000 := by omega
  obtain ⟨x, z, hv⟩ := zerosV_shape a n
  obtain ⟨x', z', hv'⟩ := combV_shape a b n
  have HV := Lib.hid hv
  have HV' := Lib.hid hv'
  clear hv hv'
  rcases hcase with ⟨h1, h2⟩ | ⟨h1, h2⟩ | h1
  · go_enter Tryd.func9, Tryd.ntmps9
    go_wp2_with fail
    refine (shown_any w hh).mono ?_
    rintro e w1 ⟨rfl, hB⟩
    go_wp2
    go_ret
    exact ⟨rfl, hB⟩
  all_goals
    go_enter Tryd.func9, Tryd.ntmps9
    go_wp2_with fail
    refine (zeros_any a n w hh).mono ?_
    rw [HV.out]
    rintro e w1 ⟨rfl, b1⟩
    go_wp2_with fail
    refine (refzeros_any a n w1).mono ?_
    rw [HV.out]
    rintro e w1 ⟨rfl, rfl⟩
    go_wp2_with fail
    refine (combine_any a b n w1 (hh.below b1)).mono ?_
    rw [HV'.out]
    rintro e w2 ⟨rfl, b2⟩
    have c2 := b1.trans (b2.mono b1.size)
    go_wp2_with fail
    refine (refcombine_any a b n w2).mono ?_
    rw [HV'.out]
    rintro e w2 ⟨rfl, rfl⟩
    go_wp2_with fail
    refine (shown_any w2 (hh.below c2)).mono ?_
    rintro e w3 ⟨rfl, hB⟩
    go_wp2
    go_ret
    exact ⟨rfl, c2.trans (hB.mono c2.size)⟩
end Go.Proofs.YtpmfpbfbfahniaaDoor
