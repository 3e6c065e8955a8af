/- The walks of Zeros and Combine, and of back: the program's and the reference's. -/
import Derived.Test.YtpmfpbfbfahniaaDoorShiftW
namespace Go.Proofs.YtpmfpbfbfahniaaDoor
open Go.RowKit
open Lime
attribute [local go_sem high] q_shr32 q_shl32 q_shr32k q_shl32k q_shr32n q_shl32n g_com32
attribute [local go_sem] g_xor32 g_and15 g_and15_lt g_wrap8 vu_nonneg g_not32 g_not32' g_same32 g_and1 g_odd g_ne0
def zerosV (h : BitVec 32) (n : Int) : Value := if 0 ≤ n ∧ n ≤ 1000000 then .tuple #[.int .u32 (vu (~~~ s8n n.toNat (~~~ h))), .int .i64 0] else .tuple #[.int .u32 0, .int .i64 7]
def combV (a b : BitVec 32) (n : Int) : Value := if 0 ≤ n ∧ n ≤ 1000000 then .tuple #[.int .u32 (vu (s8n n.toNat a ^^^ b)), .int .i64 0] else .tuple #[.int .u32 0, .int .i64 7]
set_option maxHeartbeats 400000 in
theorem zeros_any (h : BitVec 32) (n : Int) (w : World) (hh : HalfLaid w) :
    Calls Tryd.prog 26 #[.int .u32 (vu h), .int .i64 n] w fun e w' => e = .returned (zerosV h n) ∧ Below w.heap.size w w' := by
  unfold zerosV
  by_cases hr : 0 ≤ n ∧ n ≤ 1000000
  · rw [if_pos hr]
    obtain ⟨h0, h1⟩ := hr
    have HS := Lib.hid (shift_any (~~~h) n.toNat w (by omega) hh)
    rw [show ((n.toNat : Nat) : Int) = n by omega] at HS
    go_enter Tryd.func26, Tryd.ntmps26
    go_wp2_with fail
    refine HS.out.mono ?_
    rintro e w' ⟨rfl, hB⟩
    go_wp2
    go_ret2
    exact ⟨rfl, hB⟩
  · rw [if_neg hr]
    have hc : n < 0 ∨ (0 ≤ n ∧ 1000000 < n) := by omega
    clear hr
    rcases hc with hc | ⟨h0, hc⟩
    all_goals
      go_enter Tryd.func26, Tryd.ntmps26
      go_wp2
      go_ret2
      exact ⟨rfl, Below.refl _ _⟩
set_option maxHeartbeats 400000 in
theorem combine_any (a b : BitVec 32) (n : Int) (w : World) (hh : HalfLaid w) :
    Calls Tryd.prog 28 #[.int .u32 (vu a), .int .u32 (vu b), .int .i64 n] w fun e w' => e = .returned (combV a b n) ∧ Below w.heap.size w w' := by
  unfold combV
  by_cases hr : 0 ≤ n ∧ n ≤ 1000000
  · rw [if_pos hr]
    obtain ⟨h0, h1⟩ := hr
    have HS := Lib.hid (shift_any a n.toNat w (by omega) hh)
    rw [show ((n.toNat : Nat) : Int) = n by omega] at HS
    go_enter Tryd.func28, Tryd.ntmps28
    go_wp2_with fail
    refine HS.out.mono ?_
    rintro e w' ⟨rfl, hB⟩
    go_wp2
    go_ret2
    exact ⟨rfl, hB⟩
  · rw [if_neg hr]
    have hc : n < 0 ∨ (0 ≤ n ∧ 1000000 < n) := by omega
    clear hr
    rcases hc with hc | ⟨h0, hc⟩
    all_goals
      go_enter Tryd.func28, Tryd.ntmps28
      go_wp2
      go_ret2
      exact ⟨rfl, Below.refl _ _⟩
theorem cstep_zero (r : BitVec 32) : cstep r 0 = s8 r := reg_zero1 r
set_option maxHeartbeats 400000 in
theorem refzeros_any (h : BitVec 32) (n : Int) (w : World) :
    Calls Tryd.prog 27 #[.int .u32 (vu h), .int .i64 n] w fun e w' => e = .returned (zerosV h n) ∧ w = w' := by
  unfold zerosV
  by_cases hr : 0 ≤ n ∧ n ≤ 1000000
  · rw [if_pos hr]
    obtain ⟨h0, h1⟩ := hr
    obtain ⟨m, rfl⟩ : ∃ m : Nat, n = (m : Int) := ⟨n.toNat, by omega⟩
    have hm : m ≤ 1000000 := by omega
    clear h0 h1
    have d1 : decide ((m : Int) < 0) = false := by simp
    have d2 : decide (1000000 < (m : Int)) = false := by simp; omega
    go_enter Tryd.func27, Tryd.ntmps27
    go_wp2
    go_loop [6, 7] (fun x i => ∃ k : Nat, k ≤ m ∧ i = .int .i64 k ∧ x = .int .u32 (vu (s8n k (~~~h)))) (fun _ i => m - (intOf i).toNat)
    case atStart => exact ⟨0, Nat.zero_le _, rfl, rfl⟩
    case round =>
      obtain ⟨k, hk, rfl, rfl⟩ := hrel
      by_cases hlt : k < m
      · have HS := Lib.hid (show s8n (k + 1) (~~~h) = s8 (s8n k (~~~h)) from s8n_succ _ _)
        have HR := Lib.hid (refstep_any (s8n k (~~~h)) 0 w)
        rw [cstep_zero] at HR
        go_wp2_with fail
        refine HR.out.mono ?_
        rintro e w' ⟨rfl, rfl⟩
        go_wp2
        go_round
        case rel => exact ⟨k + 1, by omega, by go_num, by rw [HS.out]⟩
        case measure => simp [intOf]; omega
      · obtain rfl : k = m := by omega
        go_wp2
        go_ret2
        exact ⟨rfl, rfl⟩
  · rw [if_neg hr]
    have hc : n < 0 ∨ (0 ≤ n ∧ 1000000 < n) := by omega
    clear hr
    rcases hc with hc | ⟨h0, hc⟩
    all_goals
      go_enter Tryd.func27, Tryd.ntmps27
      go_wp2
      go_ret2
      exact ⟨rfl, rfl⟩
theorem comb_math (a b : BitVec 32) (n : Nat) : ~~~ s8n n (~~~ a) ^^^ ~~~ s8n n (~~~ 0#32) ^^^ b = s8n n a ^^^ b := by
  rw [not_xor_not, ← s8n_xor, not_xor_not, BitVec.xor_zero]
set_option maxHeartbeats 400000 in
theorem refcombine_any (a b : BitVec 32) (n : Int) (w : World) :
    Calls Tryd.prog 29 #[.int .u32 (vu a), .int .u32 (vu b), .int .i64 n] w fun e w' => e = .returned (combV a b n) ∧ w = w' := by
  have H1 := Lib.hid (refzeros_any a n w)
  have H2 := Lib.hid (refzeros_any 0#32 n w)
  unfold zerosV at H1 H2
  unfold combV
  by_cases hr : 0 ≤ n ∧ n ≤ 1000000
  · rw [if_pos hr] at H1 H2 ⊢
    have HM := Lib.hid (comb_math a b n.toNat)
    go_enter Tryd.func29, Tryd.ntmps29
    go_wp2_with fail
    refine H1.out.mono ?_
    rintro e w' ⟨rfl, rfl⟩
    go_wp2_with fail
    refine H2.out.mono ?_
    rintro e w' ⟨rfl, rfl⟩
    go_wp2
    go_ret2
    exact ⟨by rw [← HM.out]; rfl, rfl⟩
  · rw [if_neg hr] at H1 H2 ⊢
    go_enter Tryd.func29, Tryd.ntmps29
    go_wp2_with fail
    refine H1.out.mono ?_
    rintro e w' ⟨rfl, rfl⟩
    go_wp2_with fail
    refine H2.out.mono ?_
    rintro e w' ⟨rfl, rfl⟩
    go_wp2
    go_ret2
    exact ⟨rfl, rfl⟩
/-! ### back -/
def b1k : Nat → BitVec 32 → BitVec 32
  | 0, r => r
  | n + 1, r => b1 (b1k n r)
def top32 (x : BitVec 32) : Bool := x.getLsbD 31
theorem b1_top (x : BitVec 32) (h : top32 x = true) : b1 x = (x ^^^ 3988292384#32) <<< 1 ||| 1#32 := by
  unfold b1; rw [show x.getLsbD 31 = true from h]; rfl
theorem b1_low (x : BitVec 32) (h : top32 x = false) : b1 x = x <<< 1 := by
  unfold b1; rw [show x.getLsbD 31 = false from h]; rfl
theorem top_iff (x : BitVec 32) : top32 x = decide (2147483648 ≤ x.toNat) := by
  unfold top32
  rw [BitVec.getLsbD, Nat.testBit_eq_decide_div_mod_eq]
  have := x.isLt
  rw [Bool.eq_iff_iff]; simp; omega
theorem g_top (x : BitVec 32) : (vu (x >>> 31) == 1) = top32 x := by
  rw [top_iff]; unfold vu
  rw [BitVec.toNat_ushiftRight, Nat.shiftRight_eq_div_pow, Bool.eq_iff_iff]
  have := x.isLt
  simp; omega
theorem g_or1 (x : BitVec 32) : bits .or .u32 (vu x) 1 = vu (x ||| 1#32) := g_or32 x 1#32
theorem g_ge31 (x : BitVec 32) : decide (2147483648 ≤ vu x) = top32 x := by rw [top_iff]; unfold vu; rw [Bool.eq_iff_iff]; simp; omega
theorem g_mul2 (x : BitVec 32) : IntKind.u32.wrap (vu x * 2) = vu (x <<< 1) := by
  unfold vu; rw [IntKind.wrap_u32, BitVec.toNat_shiftLeft, Nat.shiftLeft_eq]; omega
theorem g_add1 (x : BitVec 32) : IntKind.u32.wrap (vu (x <<< 1) + 1) = vu (x <<< 1 ||| 1#32) := by
  have e : x <<< 1 ||| 1#32 = x <<< 1 + 1#32 := by
    rw [BitVec.add_eq_or_of_and_eq_zero]
    apply BitVec.eq_of_getLsbD_eq
    intro i hi
    rw [BitVec.getLsbD_and, BitVec.getLsbD_shiftLeft, BitVec.getLsbD_one, BitVec.getLsbD_zero]
    by_cases h : i = 0
    · subst h; simp
    · simp [h]
  rw [e]; exact g_add32 _ 1#32
attribute [local go_sem] g_top g_or1 g_poly g_ge31 g_mul2 g_add1
set_option maxHeartbeats 400000 in
theorem back_any (r : BitVec 32) (w : World) (hh : HalfLaid w) :
    Calls Tryd.prog 36 #[.int .u32 (vu r)] w fun e w' => e = .returned (.int .u32 (vu (b8 r))) ∧ w = w' := by
  have h8 : w.cell? ⟨0, 8, none⟩ = some (.int .u32 3988292384) := hh 8#32
  clear hh
  go_enter Tryd.func36, Tryd.ntmps36
  go_wp2
  go_loop [0, 3] (fun x i => ∃ k : Nat, k ≤ 8 ∧ i = .int .i64 k ∧ x = .int .u32 (vu (b1k k r))) (fun _ i => 8 - (intOf i).toNat)
  case atStart => exact ⟨0, Nat.zero_le _, rfl, rfl⟩
  case round =>
    obtain ⟨k, hk, rfl, rfl⟩ := hrel
    by_cases hlt : k < 8
    · cases hb : top32 (b1k k r)
      · have HS := Lib.hid (show b1k (k + 1) r = b1k k r <<< 1 from b1_low _ hb)
        go_wp2
        go_round
        case rel => exact ⟨k + 1, by omega, by go_num, by rw [HS.out]⟩
        case measure => simp [intOf]; omega
      · have HS := Lib.hid (show b1k (k + 1) r = (b1k k r ^^^ 3988292384#32) <<< 1 ||| 1#32 from b1_top _ hb)
        go_wp2
        go_round
        case rel => exact ⟨k + 1, by omega, by go_num, by rw [HS.out]⟩
        case measure => simp [intOf]; omega
    · have : k = 8 := by omega
      subst this
      go_wp2
      go_ret
      exact ⟨rfl, rfl⟩
set_option maxHeartbeats 400000 in
theorem refback_any (r : BitVec 32) (w : World) :
    Calls Tryd.prog 43 #[.int .u32 (vu r)] w fun e w' => e = .returned (.int .u32 (vu (b8 r))) ∧ w = w' := by
  go_enter Tryd.func43, Tryd.ntmps43
  go_wp2
  go_loop [0, 3] (fun x i => ∃ k : Nat, k ≤ 8 ∧ i = .int .i64 k ∧ x = .int .u32 (vu (b1k k r))) (fun _ i => 8 - (intOf i).toNat)
  case atStart => exact ⟨0, Nat.zero_le _, rfl, rfl⟩
  case round =>
    obtain ⟨k, hk, rfl, rfl⟩ := hrel
    by_cases hlt : k < 8
    · cases hb : top32 (b1k k r)
      · have HS := Lib.hid (show b1k (k + 1) r = b1k k r <<< 1 from b1_low _ hb)
        go_wp2
        go_round
        case rel => exact ⟨k + 1, by omega, by go_num, by rw [HS.out]⟩
        case measure => simp [intOf]; omega
      · have HS := Lib.hid (show b1k (k + 1) r = (b1k k r ^^^ 3988292384#32) <<< 1 ||| 1#32 from b1_top _ hb)
        go_wp2
        go_round
        case rel => exact ⟨k + 1, by omega, by go_num, by rw [HS.out]⟩
        case measure => simp [intOf]; omega
    · have : k = 8 := by omega
      subst this
      go_wp2
      go_ret
      exact ⟨rfl, rfl⟩
end Go.Proofs.YtpmfpbfbfahniaaDoor
