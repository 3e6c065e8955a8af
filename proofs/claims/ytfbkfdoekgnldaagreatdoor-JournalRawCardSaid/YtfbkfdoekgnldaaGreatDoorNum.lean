/- Numbers in sectors, the lowest byte first: the program's closures that write and read them, and the reference's functions. -/
import Derived.Test.YtfbkfdoekgnldaaGreatDoorSec
namespace Go.Proofs.YtfbkfdoekgnldaaGreatDoor
open Go.RowKit
open Lime
attribute [local go_sem high] q_shr32 q_shl32 q_shr32k q_shl32k q_shr32n q_shl32n g_com32
attribute [local go_sem] g_xor32 g_or32 g_wrap8 vu_nonneg g_same32 g_lo8
/-- k bytes of a number written at a place -/
def putK (s : Sector) (p : Nat) (n : BitVec 32) : Nat → Sector
  | 0 => s
  | k + 1 => sput (putK s p n k) (p + k) (lo8 (n >>> (8 * k)))
def putN (s : Sector) (p : Nat) (n : BitVec 32) : Sector := putK s p n 4
/-- k bytes of a number read -/
def getK (s : Sector) (p : Nat) : Nat → BitVec 32
  | 0 => 0#32
  | k + 1 => getK s p k ||| (x8 (sat s (p + k)) <<< (8 * k))
def getN (s : Sector) (p : Nat) : BitVec 32 := getK s p 4
set_option maxHeartbeats 400000 in
theorem numwrite_any (lb sb p : Nat) (n : BitVec 32) (s : Sector) (t : TypeId) (w : World) (hp : p + 4 ≤ 128) (hne : lb ≠ sb)
    (hl : w.cell? ⟨lb, 0, none⟩ = some (.slice (some ⟨sb, p, none⟩) 4 4)) (hs : w.heap[sb]? = some (.cells (sec s) t (0, 0))) :
    Calls Tryz.prog 103 #[.int .u32 (vu n), .pointer (some ⟨lb, 0, none⟩)] w fun e w' =>
      e = .returned (.tuple #[]) ∧ ∃ m, (w.setRow sb (sec (putN s p n))).drewN m = w' := by
  go_enter Tryz.func103, Tryz.ntmps103
  go_wp2
  go_loopw [6] (fun i wr => ∃ k : Nat, k ≤ 4 ∧ i = .int .i64 k ∧ ∃ m, wr = (w.setRow sb (sec (putK s p n k))).drewN m) (fun i _ => 4 - (intOf i).toNat)
  case atStart => exact ⟨0, Nat.zero_le _, rfl, 0, (setRow_self w sb _ _ _ hs).symm⟩
  case round =>
    obtain ⟨k, hk, rfl, m, hwr⟩ := hrel
    have hl' : wr.cell? ⟨lb, 0, none⟩ = some (.slice (some ⟨sb, p, none⟩) 4 4) := by
      rw [hwr]; exact (cell_setRow_other _ _ _ _ hne).trans hl
    have hs' : wr.heap[sb]? = some (.cells (sec (putK s p n k)) t (0, 0)) := by rw [hwr]; exact setRow_heap w sb _ _ _ _ hs
    by_cases hlt : k < 4
    · have hc : wr.cell? ⟨sb, p + k, none⟩ = some (.int .u8 (vb (sat (putK s p n k) (p + k)))) := by
        rw [cell_of_row wr sb _ _ _ _ hs', sec_get _ _ (by omega)]
      have hf : wr.frozen? ⟨sb, p + k, none⟩ = false := frozen_of_row wr sb _ _ _ hs'
      have HW : Hid (wr.setCell ⟨sb, p + k, none⟩ (.int .u8 (vb (lo8 (n >>> (8 * k))))) = (w.setRow sb (sec (putK s p n (k + 1)))).drewN m) := by
        rw [setCell_eq_setRow wr sb _ _ _ _ _ hs', sec_set, hwr]
        exact congrArg (World.drewN · m) (setRow_setRow w sb _ _)
      clear hwr hs'
      go_wp2
      go_region
      all_goals go_wp2
      go_roundw
      case rel => exact ⟨k + 1, by omega, by go_num, m + 1, by rw [HW.out]; rfl⟩
      case measure => simp [intOf]; omega
    · have : k = 4 := by omega
      subst this
      have HW := Lib.hid hwr
      clear hwr
      go_wp2
      go_end0
      exact ⟨rfl, m, HW.out.symm⟩
set_option maxHeartbeats 400000 in
theorem numread_any (lb sb p : Nat) (s : Sector) (t : TypeId) (w : World) (hp : p + 4 ≤ 128)
    (hl : w.cell? ⟨lb, 0, none⟩ = some (.slice (some ⟨sb, p, none⟩) 4 4)) (hs : w.heap[sb]? = some (.cells (sec s) t (0, 0))) :
    Calls Tryz.prog 104 #[.pointer (some ⟨lb, 0, none⟩)] w fun e w' =>
      e = .returned (.int .u32 (vu (getN s p))) ∧ w = w' := by
  go_enter Tryz.func104, Tryz.ntmps104
  go_wp2
  go_loop [2, 6] (fun x i => ∃ k : Nat, k ≤ 4 ∧ i = .int .i64 k ∧ x = .int .u32 (vu (getK s p k))) (fun _ i => 4 - (intOf i).toNat)
  case atStart => exact ⟨0, Nat.zero_le _, rfl, rfl⟩
  case round =>
    obtain ⟨k, hk, rfl, rfl⟩ := hrel
    by_cases hlt : k < 4
    · have hc : w.cell? ⟨sb, p + k, none⟩ = some (.int .u8 (vb (sat s (p + k)))) := by
        rw [cell_of_row w sb _ _ _ _ hs, sec_get _ _ (by omega)]
      clear hs
      go_wp2
      go_round
      case rel => exact ⟨k + 1, by omega, by go_num, rfl⟩
      case measure => simp [intOf]; omega
    · have : k = 4 := by omega
      subst this
      go_wp2
      go_ret
      exact ⟨rfl, rfl⟩
set_option maxRecDepth 100000 in
set_option maxHeartbeats 400000 in
theorem number_any (sb p : Nat) (w : World) (hp : p + 4 ≤ 128) :
    Calls Tryz.prog 87 #[.pointer (some ⟨sb, 0, none⟩), .int .i64 (p : Int)] w fun e w' =>
      e = .returned (.tuple #[.func (.func 103) #[] #[.pointer (some ⟨w.heap.size, 0, none⟩)], .func (.func 104) #[] #[.pointer (some ⟨w.heap.size, 0, none⟩)]])
      ∧ w.alloc (.cells #[.slice (some ⟨sb, p, none⟩) 4 4] 96) = w' := by
  have hsl : ∀ w, (Instr.sliceAt 53 (Value.pointer (some ⟨sb, 0, none⟩)) (some (Value.int .i64 (p : Int))) (some (Value.int .i64 ((p : Int) + 4))) (some (Value.int .i64 ((p : Int) + 4)))).run Tryz.prog w =
      .ok (.slice (some ⟨sb, p, none⟩) 4 4) w := fun w => by
    have := run_slice3_sector sb p (p + 4) (by omega) hp w
    rw [show p + 4 - p = 4 by omega] at this
    exact this
  go_enter Tryz.func87, Tryz.ntmps87
  go_wp2
  go_ret2
  exact ⟨rfl, rfl⟩
end Go.Proofs.YtfbkfdoekgnldaaGreatDoor
