/- The examples that each statement on sums asks first. -/
import Derived.Test.YtpmfpbfbfahniaaDoorLocW
import Derived.Test.YtpmfpbfbfahniaaDoorMixW
import Derived.Lib.SlBytesConst
namespace Go.Proofs.YtpmfpbfbfahniaaDoor
open Go.RowKit
open Lime
/-- what Locate returns -/
def locAny (l : List UInt8) (want : BitVec 32) : Value :=
  if 1000 < l.length then .tuple #[.int .i64 0, .int .u8 0, .int .i64 3] else if crc l = want then .tuple #[.int .i64 0, .int .u8 0, .int .i64 8]
  else locV (locS (crc l ^^^ want) (bwd l l.length))
theorem locate_any (cap : Nat) (a : Option Addr) (l : List UInt8) (want : BitVec 32) (w : World) (hb : BytesAt w a l) (hh : HalfLaid w) :
    Calls Tryd.prog 18 #[.slice a l.length cap, .int .u32 (vu want)] w fun e w' => e = .returned (locAny l want) ∧ Below w.heap.size w w' := by
  unfold locAny
  by_cases h1 : 1000 < l.length
  · rw [if_pos h1]; exact locate_long cap a l want w hb h1
  · rw [if_neg h1]
    by_cases h2 : crc l = want
    · rw [if_pos h2]; exact locate_twice cap a l want w hb (by omega) hh h2
    · rw [if_neg h2]; exact locate_rest cap a l want w hb (by omega) hh h2
theorem bytes_new (W : World) (cs : Array Value) (fz : Nat × Nat) (l : List UInt8) (hl : l.length ≤ 9223372036854775807) (hcs : cs = (l.map fun c => Value.int .u8 (vb c)).toArray) : BytesAt (W.alloc (.cells cs 5 fz)) (some ⟨W.heap.size, 0, none⟩) l := by
  subst hcs
  refine ⟨hl, .inr ⟨W.heap.size, 0, rfl, fun i hi => ?_⟩⟩
  rw [cell_of_row _ _ _ _ _ _ (heap_alloc_new W _)]
  simp [at8, hi]
theorem below_new (W : World) (o : Obj) : Below W.heap.size W (W.alloc o) := (Below.refl _ _).alloc (Nat.le_refl _) _
theorem crc_new (W : World) (cs : Array Value) (fz : Nat × Nat) (l : List UInt8) (n cap : Nat) (c : Int) (hcs : cs = (l.map fun c => Value.int .u8 (vb c)).toArray) (hn : n = l.length) (hl : l.length ≤ 9223372036854775807) (hc : vu (crc l) = c) (hh : HalfLaid W) :
    Calls Tryd.prog 14 #[.slice (some ⟨W.heap.size, 0, none⟩) n cap] (W.alloc (.cells cs 5 fz)) fun e w' => e = .returned (.int .u32 c) ∧ Below W.heap.size W w' := by
  subst hn hc
  exact (crc_any cap _ l _ (bytes_new W cs fz l hl hcs) (hh.below (below_new W _))).mono fun e w' ⟨h1, h2⟩ => ⟨h1, (below_new W (.cells cs 5 fz)).trans (h2.mono (by simp))⟩
theorem mix_new (W : World) (cs : Array Value) (fz : Nat × Nat) (l : List UInt8) (n cap : Nat) (c : Int) (hcs : cs = (l.map fun c => Value.int .u8 (vb c)).toArray) (hn : n = l.length) (hl : l.length ≤ 9223372036854775807) (hc : joinM (mix2 1 0 l) = c) :
    Calls Tryd.prog 24 #[.slice (some ⟨W.heap.size, 0, none⟩) n cap] (W.alloc (.cells cs 5 fz)) fun e w' => e = .returned (.int .u64 c) ∧ Below W.heap.size W w' := by
  subst hn hc
  exact (mix_any cap _ l _ (bytes_new W cs fz l hl hcs)).mono fun e w' ⟨h1, h2⟩ => ⟨h1, (below_new W (.cells cs 5 fz)).trans (h2.mono (by simp))⟩
theorem loc_new (W : World) (cs : Array Value) (fz : Nat × Nat) (l : List UInt8) (n cap : Nat) (want : BitVec 32) (v : Value) (hcs : cs = (l.map fun c => Value.int .u8 (vb c)).toArray) (hn : n = l.length) (hl : l.length ≤ 9223372036854775807) (hv : locAny l want = v) (hh : HalfLaid W) :
    Calls Tryd.prog 18 #[.slice (some ⟨W.heap.size, 0, none⟩) n cap, .int .u32 (vu want)] (W.alloc (.cells cs 5 fz)) fun e w' => e = .returned v ∧ Below W.heap.size W w' := by
  subst hn hv
  exact (locate_any cap _ l want _ (bytes_new W cs fz l hl hcs) (hh.below (below_new W _))).mono fun e w' ⟨h1, h2⟩ => ⟨h1, (below_new W (.cells cs 5 fz)).trans (h2.mono (by simp))⟩
theorem crc_nil (W : World) (hh : HalfLaid W) : Calls Tryd.prog 14 #[.slice none 0 0] W fun e w' => e = .returned (.int .u32 0) ∧ Below W.heap.size W w' :=
  crc_any 0 none [] W ⟨by simp, .inl rfl⟩ hh
theorem ex_comb : combV 2615402659#32 320708720#32 5 = .tuple #[.int .u32 3421780262, .int .i64 0] := by
  have h : s8n 5 2615402659#32 ^^^ 320708720#32 = 3421780262#32 := by decide +kernel
  rw [combV, if_pos (by decide), show (5 : Int).toNat = 5 from rfl, h]; rfl
theorem ex_loc : locAny [98] 3904355907#32 = .tuple #[.int .i64 0, .int .u8 97, .int .i64 0] := by
  have h1 : crc [98] = 1908338681#32 := by decide +kernel
  have h2 : locS (1908338681#32 ^^^ 3904355907#32) (bwd [98] 1) = (3#32, 0, 97) := by decide +kernel
  rw [locAny, if_neg (by decide), if_neg (by rw [h1]; decide), h1, show ([98] : List UInt8).length = 1 from rfl, h2]; rfl
theorem ex_roll : joinM (rollA ((1262720385220 : Nat) % 4294967296 : Int) 97 99, rollB ((1262720385220 : Nat) % 4294967296 : Int) ((1262720385220 : Nat) / 4294967296 : Int) 2 97 99) = 1275605287110 := by decide +kernel
set_option maxRecDepth 100000 in
set_option maxHeartbeats 2000000 in
theorem shown_any (w : World) (hh : HalfLaid w) : Calls Tryd.prog 13 #[] w fun e w' => e = .returned (.bool true) ∧ Below w.heap.size w w' := by
  have kc := fun (w : World) (C : Array Value) (n c : Nat) => Lib.run_convert_bytes_const (P := Tryd.prog) w 23 5 C n c Tryd.underlying23 Tryd.underlying5
  go_enter Tryd.func13, Tryd.ntmps13
  go_wp2_with fail
  refine (crc_new w _ _ [49, 50, 51, 52] 4 4 2615402659 rfl rfl (by decide) (by decide +kernel) hh).mono ?_
  rintro e w1 ⟨rfl, b1⟩
  go_wp2_with fail
  refine (crc_new w1 _ _ [53, 54, 55, 56, 57] 5 5 320708720 rfl rfl (by decide) (by decide +kernel) (hh.below b1)).mono ?_
  rintro e w2 ⟨rfl, b2⟩
  have c2 := b1.trans (b2.mono b1.size)
  clear b1 b2
  go_wp2_with fail
  refine (combine_any 2615402659#32 320708720#32 5 w2 (hh.below c2)).mono ?_
  rw [ex_comb]
  rintro e w3 ⟨rfl, b3⟩
  have c3 := c2.trans (b3.mono c2.size)
  clear c2 b3
  go_wp2_with fail
  refine (loc_new w3 _ _ [98] 1 1 3904355907#32 _ rfl rfl (by decide) ex_loc (hh.below c3)).mono ?_
  rintro e w4 ⟨rfl, b4⟩
  have c4 := c3.trans (b4.mono c3.size)
  clear c3 b4
  go_wp2_with fail
  refine (mix_new w4 _ _ [97, 98] 2 2 1262720385220 rfl rfl (by decide) (by decide +kernel)).mono ?_
  rintro e w5 ⟨rfl, b5⟩
  have c5 := c4.trans (b5.mono c4.size)
  clear c4 b5
  go_wp2_with fail
  refine (roll_yes 1262720385220 2 97 99 w5 (by decide) (by decide +kernel) (by decide) (by decide)).mono ?_
  rw [ex_roll]
  rintro e w6 ⟨rfl, b6⟩
  have c6 := c5.trans (b6.mono c5.size)
  clear c5 b6
  go_wp2_with fail
  refine (crc_nil w6 (hh.below c6)).mono ?_
  rintro e w7 ⟨rfl, b7⟩
  have c7 := c6.trans (b7.mono c6.size)
  clear c6 b7
  go_wp2_with fail
  refine (crc_new w7 _ _ [97] 1 1 3904355907 rfl rfl (by decide) (by decide +kernel) (hh.below c7)).mono ?_
  rintro e w8 ⟨rfl, b8⟩
  have c8 := c7.trans (b8.mono c7.size)
  clear c7 b8
  go_wp2_with fail
  refine (crc_new w8 _ _ [49, 50, 51, 52, 53, 54, 55, 56, 57] 9 9 3421780262 rfl rfl (by decide) (by decide +kernel) (hh.below c8)).mono ?_
  rintro e w9 ⟨rfl, b9⟩
  have c9 := c8.trans (b9.mono c8.size)
  clear c8 b9
  go_wp2_with fail
  refine (mix_new w9 _ _ [97, 98] 2 2 1262720385220 rfl rfl (by decide) (by decide +kernel)).mono ?_
  rintro e w10 ⟨rfl, b10⟩
  have c10 := c9.trans (b10.mono c9.size)
  clear c9 b10
  go_wp2_with fail
  refine (mix_new w10 _ _ [98, 99] 2 2 1275605287110 rfl rfl (by decide) (by decide +kernel)).mono ?_
  rintro e w11 ⟨rfl, b11⟩
  have c11 := c10.trans (b11.mono c10.size)
  clear c10 b11
  go_wp2
  go_ret
  exact ⟨rfl, c11⟩
end Go.Proofs.YtpmfpbfbfahniaaDoor
