/- The walk of the crc: of the program's (a table of sixteen) and of the reference's (bit by bit): both return 'on'. -/
import Derived.Test.YtfbkfdoekgnldaaDoorBase
namespace Go.Proofs.YtfbkfdoekgnldaaDoor
open Go.RowKit
open Lime
def hf (y : BitVec 32) : BitVec 32 := half.getD (y &&& 15#32).toNat 0#32
theorem hf_eq (y : BitVec 32) : hf y ^^^ y >>> 4 = s4 y := (s4_half y).symm
/-- the table of the program lies in its variable -/
def HalfLaid (w : World) : Prop := ∀ y : BitVec 32, w.cell? ⟨0, (vu (y &&& 15#32)).toNat, none⟩ = some (.int .u32 (vu (hf y)))
theorem HalfLaid.below {w w' : World} (h : HalfLaid w) (hb : Below w.heap.size w w') : HalfLaid w' := fun y =>
  (hb.cell (p := ⟨0, (vu (y &&& 15#32)).toNat, none⟩) (block_lt_of_cell (h y))).trans (h y)
attribute [local go_sem high] q_shr32 q_shl32 q_shr32k q_shl32k q_shr32n q_shl32n g_com32
attribute [local go_sem] g_xor32 g_and15 g_and15_lt g_wrap8 hf_eq vu_nonneg g_not32 g_not32' g_same32

set_option maxHeartbeats 400000 in
theorem put_any (rb cap : Nat) (a : Option Addr) (r : BitVec 32) (l : List UInt8) (w : World)
    (hr : w.cell? ⟨rb, 0, none⟩ = some (.int .u32 (vu r))) (hrf : w.frozen? ⟨rb, 0, none⟩ = false) (hb : BytesAt w a l) (hh : HalfLaid w) :
    Calls Tryd.prog 85 #[.pointer (some ⟨rb, 0, none⟩), .slice a l.length cap] w fun e w' =>
      e = .returned (.tuple #[]) ∧ w.setCell ⟨rb, 0, none⟩ (.int .u32 (vu (reg r l))) = w' := by
  obtain ⟨hm, hb⟩ := hb
  go_enter Tryd.func85, Tryd.ntmps85
  go_wp2
  go_loop [4, 12] (fun x i => ∃ k : Nat, k ≤ l.length ∧ i = .int .i64 k ∧ x = .int .u32 (vu (reg r (l.take k)))) (fun _ i => l.length - (intOf i).toNat)
  case atStart => exact ⟨0, Nat.zero_le _, rfl, rfl⟩
  case round =>
    obtain ⟨k, hk, rfl, rfl⟩ := hrel
    by_cases hlt : k < l.length
    · rcases hb with hb | ⟨b, off, rfl, hb⟩
      · omega
      have hc := hb k hlt
      have hh' : ∀ y : BitVec 32, w.cell? ⟨0, (vu (y &&& 15#32)).toNat, none⟩ = some (.int .u32 (vu (hf y))) := hh
      clear hb hh
      have HS : Hid (vu (reg r (l.take (k + 1))) = vu (s4 (s4 (reg r (l.take k) ^^^ x8 (at8 l k))))) := by
        rw [take_at l k (by omega), reg_snoc]; exact rfl
      go_wp2
      go_round
      case rel => exact ⟨k + 1, by omega, by go_num, by rw [HS.out]⟩
      case measure => simp [intOf]; omega
    · go_wp2
      go_end0
      exact ⟨rfl, by rw [List.take_of_length_le (by omega)]⟩

set_option maxHeartbeats 400000 in
theorem on_any (h0 : BitVec 32) (cap : Nat) (a : Option Addr) (l : List UInt8) (w : World) (hb : BytesAt w a l) (hh : HalfLaid w) :
    Calls Tryd.prog 83 #[.int .u32 (vu h0), .slice a l.length cap] w fun e w' =>
      e = .returned (.int .u32 (vu (on h0 l))) ∧ Below w.heap.size w w' := by
  have hB : Below w.heap.size w (w.alloc (.cells #[.int .u32 (vu (~~~h0))] 135)) := (Below.refl _ _).alloc (Nat.le_refl _) _
  have hb' := hb.below hB
  have hh' := hh.below hB
  go_enter Tryd.func83, Tryd.ntmps83
  go_wp2_with fail
  refine (put_any _ cap a (~~~h0) l _ ?_ ?_ hb' hh').mono ?_
  · go_simp
  · go_simp
  rintro e w' ⟨rfl, rfl⟩
  go_wp2
  go_ret
  exact ⟨rfl, (Below.refl _ _).alloc (Nat.le_refl _) _⟩

theorem crc_any (cap : Nat) (a : Option Addr) (l : List UInt8) (w : World) (hb : BytesAt w a l) (hh : HalfLaid w) :
    Calls Tryd.prog 79 #[.slice a l.length cap] w fun e w' =>
      e = .returned (.int .u32 (vu (crc l))) ∧ Below w.heap.size w w' := by
  go_enter Tryd.func79, Tryd.ntmps79
  go_wp2_with fail
  refine (on_any 0#32 cap a l _ hb hh).mono ?_
  rintro e w' ⟨rfl, hB⟩
  go_wp2
  go_ret
  exact ⟨rfl, hB⟩

end Go.Proofs.YtfbkfdoekgnldaaDoor
