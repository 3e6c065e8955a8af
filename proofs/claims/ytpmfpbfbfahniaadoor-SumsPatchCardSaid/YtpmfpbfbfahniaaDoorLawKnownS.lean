/- The walk of the statement SumsKnown. -/
import Derived.Test.YtpmfpbfbfahniaaDoorShown
import Derived.Test.YtpmfpbfbfahniaaDoorLawMixes
namespace Go.Proofs.YtpmfpbfbfahniaaDoor
open Go.RowKit
open Lime
set_option maxRecDepth 100000 in
set_option maxHeartbeats 1000000 in
theorem patch_range (cap : Nat) (a : Option Addr) (l : List UInt8) (p : Int) (want : BitVec 32) (w : World) (hl : l.length ≤ 9223372036854775807) (hp : p < 0 ∨ (l.length : Int) - 4 < p) :
    Calls Tryd.prog 30 #[.slice a l.length cap, .int .i64 p, .int .u32 (vu want)] w fun e w' => e = .returned (.tuple #[.slice none 0 0, .int .i64 7]) ∧ w = w' := by
  have hc : p < 0 ∨ (0 ≤ p ∧ (l.length : Int) - 4 < p) := by omega
  clear hp
  rcases hc with h | ⟨h1, h⟩
  · have q : decide (p < 0) = true := by simpa using h
    go_enter Tryd.func30, Tryd.ntmps30
    go_wp2
    go_ret2
    exact ⟨rfl, rfl⟩
  · have q : decide (p < 0) = false := by simp; omega
    have q2 : decide ((l.length : Int) - 4 < p) = true := by simpa using h
    go_enter Tryd.func30, Tryd.ntmps30
    go_wp2
    go_ret2
    exact ⟨rfl, rfl⟩
theorem ex_twice : locAny [97] 3904355907#32 = .tuple #[.int .i64 0, .int .u8 0, .int .i64 8] := by
  have h1 : crc [97] = 3904355907#32 := by decide +kernel
  rw [locAny, if_neg (by decide), if_pos h1]
theorem ex_none : locAny [] 1#32 = .tuple #[.int .i64 0, .int .u8 0, .int .i64 4] := by
  have h1 : crc [] = 0#32 := by decide +kernel
  rw [locAny, if_neg (by decide), if_neg (by rw [h1]; decide)]
  rfl
theorem ex_zeros : zerosV 5#32 (-1) = .tuple #[.int .u32 0, .int .i64 7] := if_neg (by decide)
theorem bytes_nil (w : World) (a : Option Addr) : BytesAt w a [] := ⟨by simp, .inl rfl⟩
set_option maxRecDepth 100000 in
set_option maxHeartbeats 2000000 in
theorem known_walk (w : World) (hh : HalfLaid w) : Calls Tryd.prog 12 #[] w fun e w' => e = .returned (.bool true) ∧ Below w.heap.size w w' := by
  have kc := fun (w : World) (C : Array Value) (n c : Nat) => Lib.run_convert_bytes_const (P := Tryd.prog) w 23 5 C n c Tryd.underlying23 Tryd.underlying5
  go_enter Tryd.func12, Tryd.ntmps12
  go_wp2_with fail
  refine (loc_new w _ _ [97] 1 1 3904355907#32 _ rfl rfl (by decide) ex_twice hh).mono ?_
  rintro e w1 ⟨rfl, c1⟩
  go_wp2_with fail
  refine (locate_any 0 none [] 1#32 w1 (bytes_nil w1 none) (hh.below c1)).mono ?_
  rw [ex_none]
  rintro e w2 ⟨rfl, b⟩
  have c2 := c1.trans (b.mono c1.size)
  clear c1 b
  go_wp2_with fail
  refine (zeros_any 5#32 (-1) w2 (hh.below c2)).mono ?_
  rw [ex_zeros]
  rintro e w3 ⟨rfl, b⟩
  have c3 := c2.trans (b.mono c2.size)
  clear c2 b
  go_wp2_with fail
  refine (patch_range 3 (some ⟨w3.heap.size, 0, none⟩) [97, 98, 99] 0 1#32 _ (by decide) (by decide)).mono ?_
  rintro e w4 ⟨rfl, rfl⟩
  have c4 := c3.alloc c3.size (.cells #[.int .u8 97, .int .u8 98, .int .u8 99] 5 (3, 4))
  go_wp2_with fail
  refine (mixon_no 18446744073709551615 0 none [] _ (by decide) (by decide +kernel)).mono ?_
  rintro e w5 ⟨rfl, b⟩
  have c5 := c4.trans (b.mono c4.size)
  clear c4 b c3
  go_wp2_with fail
  refine (roll_range 1 0 1 1 w5 (by decide) (by decide +kernel) (by decide)).mono ?_
  rintro e w6 ⟨rfl, b⟩
  have c6 := c5.trans (b.mono c5.size)
  clear c5 b
  go_wp2_with fail
  refine (on_any 3904355907#32 0 none [] w6 (bytes_nil w6 none) (hh.below c6)).mono ?_
  rw [show vu (on 3904355907#32 []) = 3904355907 by decide +kernel]
  rintro e w7 ⟨rfl, b⟩
  have c7 := c6.trans (b.mono c6.size)
  clear c6 b
  go_wp2_with fail
  refine (mix_any 0 none [] w7 (bytes_nil w7 none)).mono ?_
  rw [show joinM (mix2 1 0 []) = 1 by decide +kernel]
  rintro e w8 ⟨rfl, b⟩
  have c8 := c7.trans (b.mono c7.size)
  clear c7 b
  go_wp2_with fail
  refine (mix_new w8 _ _ [97] 1 1 420906795106 rfl rfl (by decide) (by decide +kernel)).mono ?_
  rintro e w9 ⟨rfl, b⟩
  have c9 := c8.trans (b.mono c8.size)
  clear c8 b
  go_wp2_with fail
  refine (shown_any w9 (hh.below c9)).mono ?_
  rintro e w10 ⟨rfl, b⟩
  go_wp2
  go_ret
  exact ⟨rfl, c9.trans (b.mono c9.size)⟩
end Go.Proofs.YtpmfpbfbfahniaaDoor
