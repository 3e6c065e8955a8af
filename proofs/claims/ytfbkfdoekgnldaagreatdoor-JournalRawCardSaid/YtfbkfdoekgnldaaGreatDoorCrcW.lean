/- The walk of the crc: of the program's (a table of sixteen) and of the reference's (bit by bit): both return 'on'. -/
import Derived.Test.YtfbkfdoekgnldaaGreatDoorBase
namespace Go.Proofs.YtfbkfdoekgnldaaGreatDoor
open Go.RowKit
open Lime
def hf (y : BitVec 32) : BitVec 32 := half.getD (y &&& 15#32).toNat 0#32
theorem hf_eq (y : BitVec 32) : hf y ^^^ y >>> 4 = s4 y := (s4_half y).symm
/-- the table of the program lies in its variable -/
def HalfLaid (w : World) : Prop := ∀ y : BitVec 32, w.cell? ⟨0, (vu (y &&& 15#32)).toNat, none⟩ = some (.int .u32 (vu (hf y)))
theorem HalfLaid.below {w w' : World} (h : HalfLaid w) (hb : Below w.heap.size w w') : HalfLaid w' := fun y =>
  (hb.cell (p := ⟨0, (vu (y &&& 15#32)).toNat, none⟩) (block_lt_of_cell (h y))).trans (h y)
attribute [local go_sem high] q_shr32 q_shl32 q_shr32k q_shl32k q_shr32n q_shl32n g_com32
attribute [local go_sem] g_xor32 g_and15 g_and15_lt g_wrap8 hf_eq vu_nonneg g_not32 g_not32' g_same32

set_option maxHeartbeats 400000 in
theorem put_any (rb cap : Nat) (a : Option Addr) (r : BitVec 32) (l : List UInt8) (w : World)
    (hr : w.cell? ⟨rb, 0, none⟩ = some (.int .u32 (vu r))) (hrf : w.frozen? ⟨rb, 0, none⟩ = false) (hb : BytesAt w a l) (hh : HalfLaid w) :
    Calls Tryz.prog 109 #[.pointer (some ⟨rb, 0, none⟩), .slice a l.length cap] w fun e w' =>
      e = .returned (.tuple #[]) ∧ w.setCell ⟨rb, 0, none⟩ (.int .u32 (vu (reg r l))) = w' := by
  obtain ⟨hm, hb⟩ := hb
  go_enter Tryz.func109, Tryz.ntmps109
  go_wp2
  go_loop [4, 12] (fun x i => ∃ k : Nat, k ≤ l.length ∧ i = .int .i64 k ∧ x = .int .u32 (vu (reg r (l.take k)))) (fun _ i => l.length - (intOf i).toNat)
  case atStart => exact ⟨0, Nat.zero_le _, rfl, rfl⟩
  case round =>
    obtain ⟨k, hk, rfl, rfl⟩ := hrel
    by_cases hlt : k < l.length
    · rcases hb with hb | ⟨b, off, rfl, hb⟩
      · omega
      have hc := hb k hlt
      have hh' : ∀ y : BitVec 32, w.cell? ⟨0, (vu (y &&& 15#32)).toNat, none⟩ = some (.int .u32 (vu (hf y))) := hh
      clear hb hh
      have HS : Hid (vu (reg r (l.take (k + 1))) = vu (s4 (s4 (reg r (l.take k) ^^^ x8 (at8 l k))))) := by
        rw [take_at l k (by omega), reg_snoc]; exact rfl
      go_wp2
      go_round
      case rel => exact ⟨k + 1, by omega, by go_num, by rw [HS.out]⟩
      case measure => simp [intOf]; omega
    · go_wp2
      go_end0
      exact ⟨rfl, by rw [List.take_of_length_le (by omega)]⟩

set_option maxHeartbeats 400000 in
theorem on_any (h0 : BitVec 32) (cap : Nat) (a : Option Addr) (l : List UInt8) (w : World) (hb : BytesAt w a l) (hh : HalfLaid w) :
    Calls Tryz.prog 105 #[.int .u32 (vu h0), .slice a l.length cap] w fun e w' =>
      e = .returned (.int .u32 (vu (on h0 l))) ∧ Below w.heap.size w w' := by
  have hB : Below w.heap.size w (w.alloc (.cells #[.int .u32 (vu (~~~h0))] 151)) := (Below.refl _ _).alloc (Nat.le_refl _) _
  have hb' := hb.below hB
  have hh' := hh.below hB
  go_enter Tryz.func105, Tryz.ntmps105
  go_wp2_with fail
  refine (put_any _ cap a (~~~h0) l _ ?_ ?_ hb' hh').mono ?_
  · go_simp
  · go_simp
  rintro e w' ⟨rfl, rfl⟩
  go_wp2
  go_ret
  exact ⟨rfl, (Below.refl _ _).alloc (Nat.le_refl _) _⟩

theorem crc_any (cap : Nat) (a : Option Addr) (l : List UInt8) (w : World) (hb : BytesAt w a l) (hh : HalfLaid w) :
    Calls Tryz.prog 88 #[.slice a l.length cap] w fun e w' =>
      e = .returned (.int .u32 (vu (crc l))) ∧ Below w.heap.size w w' := by
  go_enter Tryz.func88, Tryz.ntmps88
  go_wp2_with fail
  refine (on_any 0#32 cap a l _ hb hh).mono ?_
  rintro e w' ⟨rfl, hB⟩
  go_wp2
  go_ret
  exact ⟨rfl, hB⟩

/-! ### the reference's -/
def s1k : Nat → BitVec 32 → BitVec 32
  | 0, r => r
  | n + 1, r => s1 (s1k n r)
attribute [local go_sem] g_rem2 g_rem2' g_poly g_quo2
set_option maxHeartbeats 400000 in
theorem refstep_any (r : BitVec 32) (c : UInt8) (w : World) :
    Calls Tryz.prog 102 #[.int .u32 (vu r), .int .u8 (vb c)] w fun e w' =>
      e = .returned (.int .u32 (vu (cstep r c))) ∧ w = w' := by
  go_enter Tryz.func102, Tryz.ntmps102
  go_wp2
  go_loop [0, 5] (fun x i => ∃ k : Nat, k ≤ 8 ∧ i = .int .i64 k ∧ x = .int .u32 (vu (s1k k (r ^^^ x8 c)))) (fun _ i => 8 - (intOf i).toNat)
  case atStart => exact ⟨0, Nat.zero_le _, rfl, rfl⟩
  case round =>
    obtain ⟨k, hk, rfl, rfl⟩ := hrel
    by_cases hlt : k < 8
    · cases hb : odd32 (s1k k (r ^^^ x8 c))
      · have HS := Lib.hid (show s1k (k + 1) (r ^^^ x8 c) = s1k k (r ^^^ x8 c) >>> 1 from s1_even _ hb)
        go_wp2
        go_round
        case rel => exact ⟨k + 1, by omega, by go_num, by rw [HS.out]⟩
        case measure => simp [intOf]; omega
      · have HS := Lib.hid (show s1k (k + 1) (r ^^^ x8 c) = (s1k k (r ^^^ x8 c) >>> 1) ^^^ 3988292384#32 from s1_odd _ hb)
        go_wp2
        go_round
        case rel => exact ⟨k + 1, by omega, by go_num, by rw [HS.out]⟩
        case measure => simp [intOf]; omega
    · have : k = 8 := by omega
      subst this
      go_wp2
      go_ret
      exact ⟨rfl, rfl⟩

set_option maxHeartbeats 400000 in
theorem refon_any (h0 : BitVec 32) (cap : Nat) (a : Option Addr) (l : List UInt8) (w : World) (hb : BytesAt w a l) :
    Calls Tryz.prog 83 #[.int .u32 (vu h0), .slice a l.length cap] w fun e w' =>
      e = .returned (.int .u32 (vu (on h0 l))) ∧ w = w' := by
  obtain ⟨hm, hb⟩ := hb
  go_enter Tryz.func83, Tryz.ntmps83
  go_wp2
  go_loop [5, 6] (fun x i => ∃ k : Nat, k ≤ l.length ∧ i = .int .i64 k ∧ x = .int .u32 (vu (reg (~~~h0) (l.take k)))) (fun _ i => l.length - (intOf i).toNat)
  case atStart => exact ⟨0, Nat.zero_le _, rfl, rfl⟩
  case round =>
    obtain ⟨k, hk, rfl, rfl⟩ := hrel
    by_cases hlt : k < l.length
    · rcases hb with hb | ⟨b, off, rfl, hb⟩
      · omega
      have hc := hb k hlt
      clear hb
      have HS := Lib.hid (show reg (~~~h0) (l.take (k + 1)) = cstep (reg (~~~h0) (l.take k)) (at8 l k) by rw [take_at l k (by omega), reg_snoc])
      go_wp2_with fail
      refine (refstep_any _ _ _).mono ?_
      rintro e w' ⟨rfl, rfl⟩
      go_wp2
      go_round
      case rel => exact ⟨k + 1, by omega, by go_num, by rw [HS.out]⟩
      case measure => simp [intOf]; omega
    · go_wp2
      go_ret
      exact ⟨by rw [List.take_of_length_le (by omega)]; rfl, rfl⟩

theorem refcrc_any (cap : Nat) (a : Option Addr) (l : List UInt8) (w : World) (hb : BytesAt w a l) :
    Calls Tryz.prog 44 #[.slice a l.length cap] w fun e w' =>
      e = .returned (.int .u32 (vu (crc l))) ∧ w = w' := by
  go_enter Tryz.func44, Tryz.ntmps44
  go_wp2_with fail
  refine (refon_any 0#32 cap a l _ hb).mono ?_
  rintro e w' ⟨rfl, rfl⟩
  go_wp2
  go_ret
  exact ⟨rfl, rfl⟩
end Go.Proofs.YtfbkfdoekgnldaaGreatDoor
