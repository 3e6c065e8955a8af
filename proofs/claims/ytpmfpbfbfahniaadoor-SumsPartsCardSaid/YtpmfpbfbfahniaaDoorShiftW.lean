/- The walk of shift; Zeros and Combine, the program's and the reference's. -/
import Derived.Test.YtpmfpbfbfahniaaDoorMatW
import Derived.Test.YtpmfpbfbfahniaaDoorKeep
namespace Go.Proofs.YtpmfpbfbfahniaaDoor
open Go.RowKit
open Lime
attribute [local go_sem high] q_shr32 q_shl32 q_shr32k q_shl32k q_shr32n q_shl32n g_com32
attribute [local go_sem] g_xor32 g_and15 g_and15_lt g_wrap8 vu_nonneg g_not32 g_not32' g_same32 g_and1 g_odd g_ne0
theorem q_shl1n (t : TypeId) (yk : IntKind) (k : Nat) : binOp .shl t (.int .u32 1) (.int yk (k : Int)) = pure (.int .u32 (vu (1#32 <<< k))) := q_shl32n t 1#32 yk k
attribute [local go_sem high] q_shl1n
theorem reg_zero1 (r : BitVec 32) : reg r [0] = s8 r := by
  show cstep r 0 = _
  rw [cstep, show x8 0 = 0#32 from rfl, BitVec.xor_zero]
def mzK (k : Nat) : Nat → BitVec 32 := fun i => if i < k then mz 1 i else 0#32
theorem mzK_put (k : Nat) : mput (mzK k) k (s8 (1#32 <<< k)) = mzK (k + 1) := by
  funext i
  unfold mput mzK
  by_cases h : i = k
  · subst h; rw [if_pos rfl, if_pos (by omega)]; rfl
  · rw [if_neg h]
    by_cases h2 : i < k
    · rw [if_pos h2, if_pos (by omega)]
    · rw [if_neg h2, if_neg (by omega)]
theorem i64_and1 (n : Int) : bits .and .i64 n 1 = n % 2 := by
  have h1 : (BitVec.ofInt 64 1).toNat = 2 ^ 1 - 1 := by decide
  have key : (BitVec.ofInt 64 n &&& BitVec.ofInt 64 1).toNat = (n % ((2 ^ 64 : Nat) : Int)).toNat % 2 ^ 1 := by
    rw [BitVec.toNat_and, BitVec.toNat_ofInt, h1, Nat.and_two_pow_sub_one_eq_mod]
  show IntKind.i64.wrap ((BitVec.ofInt 64 n &&& BitVec.ofInt 64 1).toNat : Nat) = n % 2
  rw [key, IntKind.wrap_i64]
  omega
theorem g_and1n (m : Nat) : bits .and .i64 (m : Int) 1 = ((m % 2 : Nat) : Int) := by rw [i64_and1]; omega
theorem q_shrn (t : TypeId) (m : Nat) : binOp .shr t (.int .i64 (m : Int)) (.int .u64 1) = pure (.int .i64 ((m / 2 : Nat) : Int)) := by
  show Op.shift .shr .i64 (m : Int) .u64 1 = _
  rw [shift_shr_any _ _ _ _ (by decide)]
  congr 2
attribute [local go_sem high] q_shrn
attribute [local go_sem] g_and1n
set_option maxRecDepth 100000 in
set_option maxHeartbeats 1000000 in
theorem shift_any (r : BitVec 32) (n : Nat) (w : World) (hn : n ≤ 1000000) (hh : HalfLaid w) :
    Calls Tryd.prog 41 #[.int .u32 (vu r), .int .i64 (n : Int)] w fun e w' =>
      e = .returned (.int .u32 (vu (s8n n r))) ∧ Below w.heap.size w w' := by
  have k0 := (Keep.start w).alloc (.cells (mcs m0) 76)
  have e0 : mcs m0 = mcs (mzK 0) := rfl
  rw [e0] at k0
  clear e0
  go_enter Tryd.func41, Tryd.ntmps41
  go_wp2_with (with_reducible refine wpList_alloc_mat rfl rfl ?_)
  go_loopw [8] (fun i wr => ∃ k : Nat, k ≤ 32 ∧ i = .int .i64 k ∧ Keep w wr [(w.heap.size, .cells (mcs (mzK k)) 76)]) (fun i _ => 32 - (intOf i).toNat)
  case atStart => exact ⟨0, Nat.zero_le _, rfl, k0⟩
  case round =>
    obtain ⟨k, hk, rfl, hK⟩ := hrel
    clear k0
    by_cases hlt : k < 32
    · have hz := hK.lt 0 _ rfl
      dsimp only at hz
      have k2 := (hK.alloc (.cells #[.int .u32 (vu (1#32 <<< k))] 53)).allocAt (.cells #[.int .u8 0] 5) (wr.heap.size + 1) (by simp)
      have hbt : BytesAt ((wr.alloc (.cells #[.int .u32 (vu (1#32 <<< k))] 53)).alloc (.cells #[.int .u8 0] 5)) (some ⟨wr.heap.size + 1, 0, none⟩) [0] :=
        ⟨by simp, .inr ⟨wr.heap.size + 1, 0, rfl, fun i hi => by
          obtain rfl : i = 0 := by simp at hi; omega
          exact k2.cell 0 _ _ _ rfl 0 _ rfl⟩⟩
      have HP := Lib.hid (put_any wr.heap.size 1 (some ⟨wr.heap.size + 1, 0, none⟩) (1#32 <<< k) [0] _ (k2.cell 1 _ _ _ rfl 0 _ rfl) (frozen_of_row _ _ _ _ _ (k2.at 1 _ rfl)) hbt (hh.below k2.hB))
      have k3 := (k2.swap (cs := [(wr.heap.size, .cells #[.int .u32 (vu (1#32 <<< k))] 53), (w.heap.size, .cells (mcs (mzK k)) 76)]) (by simp)).setCell (by omega) (by simp; omega) 0 (.int .u32 (vu (s8 (1#32 <<< k))))
      rw [reg_zero1] at HP
      clear k2 hbt
      have q : decide ((k : Int) < 32) = true := by simp; omega
      go_wp2_with fail
      refine HP.out.mono ?_
      clear HP
      rintro e w' ⟨rfl, hw⟩
      rw [hw] at k3
      clear hw
      have c0 : w'.cell? ⟨wr.heap.size, 0, none⟩ = some (.int .u32 (vu (s8 (1#32 <<< k)))) := k3.cell 0 _ _ _ rfl 0 _ rfl
      have c1 : w'.cell? ⟨w.heap.size, k, none⟩ = some (.int .u32 (vu (mzK k k))) := k3.cell 1 _ _ _ rfl k _ (mcs_get _ k hlt)
      have f1 : w'.frozen? ⟨w.heap.size, k, none⟩ = false := frozen_of_row _ _ _ _ _ (k3.at 1 _ rfl)
      have k4 := (k3.drop).setCell (Nat.le_refl _) (by simp) k (.int .u32 (vu (s8 (1#32 <<< k))))
      rw [mcs_set, mzK_put] at k4
      go_wp2
      go_roundw
      case rel => exact ⟨k + 1, by omega, by go_num, k4⟩
      case measure => simp [intOf]; omega
    · have e1 : mcs (mzK k) = mcs (mz (2 ^ 0)) := mcs_congr fun i hi => by unfold mzK; rw [if_pos (by omega)]
      rw [e1] at hK
      clear e1
      have q : decide ((k : Int) < 32) = false := by simp; omega
      go_wp2_with fail
      go_loopw [0, 1] (fun rv nv W => ∃ (j m : Nat) (x : BitVec 32), m ≤ 1000000 ∧ rv = .int .u32 (vu x) ∧ nv = .int .i64 (m : Int) ∧ s8n (m * 2 ^ j) x = s8n n r ∧ Keep w W [(w.heap.size, .cells (mcs (mz (2 ^ j))) 76)]) (fun _ nv _ => (intOf nv).toNat)
      case atStart => exact ⟨0, n, r, hn, rfl, rfl, by simp, hK⟩
      case round =>
        obtain ⟨j, m, x, hm, rfl, rfl, hS, hK2⟩ := hrel
        clear hK
        have HS := Lib.hid hS
        clear hS
        by_cases hz : m = 0
        · subst hz
          go_wp2
          go_ret
          exact ⟨by rw [← HS.out]; simp [s8n], hK2.hB⟩
        · have hpos : 0 < m := by omega
          have hm2 := hK2.at 0 _ rfl
          have HZ := Lib.hid hz
          clear hz
          have hb : m % 2 = 0 ∨ m % 2 = 1 := by omega
          rcases hb with hb | hb
          · have qb : ((m : Int) % 2 == 1) = false := by simp; omega
            have HN := Lib.hid (show s8n (m / 2 * 2 ^ (j + 1)) x = s8n n r by rw [← HS.out, Nat.pow_succ, show 2 ^ j * 2 = 2 ^ j + 2 ^ j by omega, ← shift_even, show 2 * (m / 2) = m by omega])
            clear hb
            go_wp2_with (first | ((with_reducible refine wpList_load_mat rfl _ rfl w.heap.size _ ?_ hm2 ?_); rfl) | (go_at_call 46; refine (square_any _ _).mono ?_; rintro e w2 ⟨r2, hr2, rfl, hB2⟩; have e2 : mcs r2 = mcs (mz (2 ^ (j + 1))) := mcs_congr (fun i hi => by rw [hr2 i hi, mz_square, Nat.pow_succ]; congr 1; omega); rw [e2]; clear e2 hr2; have hK3 := hK2.below hB2; have hm3 := hK3.at 0 _ rfl) | ((with_reducible refine wpList_store_mat rfl _ _ rfl w.heap.size (mz (2 ^ (j + 1))) (mz (2 ^ j)) ?_ ?_ hm3 ?_); rfl; rfl))
            go_roundw
            case rel => exact ⟨j + 1, m / 2, x, by omega, rfl, by go_num, HN.out, hK3.setRow (Nat.le_refl _) (by simp) _⟩
            case measure => simp [intOf]; omega
          · have qb : ((m : Int) % 2 == 1) = true := by simp; omega
            have HN := Lib.hid (show s8n (m / 2 * 2 ^ (j + 1)) (s8n (2 ^ j) x) = s8n n r by rw [← HS.out, Nat.pow_succ, show 2 ^ j * 2 = 2 ^ j + 2 ^ j by omega, ← shift_odd, show 2 * (m / 2) + 1 = m by omega])
            have HT := Lib.hid (tm_mz (2 ^ j) x)
            clear hb
            go_wp2_with (first | ((with_reducible refine wpList_load_mat rfl _ rfl w.heap.size _ ?_ hm2 ?_); rfl) | (go_at_call 45; refine (times_any _ _ _).mono ?_; rintro e w1 ⟨rfl, hB1⟩; rw [HT.out]; have hK1 := hK2.below hB1; clear hm2; have hm2 := hK1.at 0 _ rfl) | (go_at_call 46; refine (square_any _ _).mono ?_; rintro e w2 ⟨r2, hr2, rfl, hB2⟩; have e2 : mcs r2 = mcs (mz (2 ^ (j + 1))) := mcs_congr (fun i hi => by rw [hr2 i hi, mz_square, Nat.pow_succ]; congr 1; omega); rw [e2]; clear e2 hr2; have hK3 := hK1.below hB2; have hm3 := hK3.at 0 _ rfl) | ((with_reducible refine wpList_store_mat rfl _ _ rfl w.heap.size (mz (2 ^ (j + 1))) (mz (2 ^ j)) ?_ ?_ hm3 ?_); rfl; rfl))
            go_roundw
            case rel => exact ⟨j + 1, m / 2, s8n (2 ^ j) x, by omega, rfl, by go_num, HN.out, hK3.setRow (Nat.le_refl _) (by simp) _⟩
            case measure => simp [intOf]; omega
end Go.Proofs.YtpmfpbfbfahniaaDoor
