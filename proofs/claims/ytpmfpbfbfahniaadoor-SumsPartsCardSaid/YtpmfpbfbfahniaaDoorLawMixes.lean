/- The walk of the statement SumsMixes. -/
import Derived.Test.YtpmfpbfbfahniaaDoorShown
namespace Go.Proofs.YtpmfpbfbfahniaaDoor
open Go.RowKit
open Lime
def mixonV (n : Nat) (l : List UInt8) : Int × Int := if isMix n then (joinM (mix2 ((n : Int) % 4294967296) ((n : Int) / 4294967296) l), 0) else (0, 6)
def rollV (n : Nat) (m : Int) (o i : UInt8) : Int × Int :=
  if isMix n then (if 1 ≤ m ∧ m ≤ 1000000 then (joinM (rollA ((n : Int) % 4294967296) o i, rollB ((n : Int) % 4294967296) ((n : Int) / 4294967296) m o i), 0) else (0, 7)) else (0, 6)
theorem mixon_any (n cap : Nat) (a : Option Addr) (l : List UInt8) (w : World) (hn : n < 18446744073709551616) (hb : BytesAt w a l) :
    Calls Tryd.prog 20 #[.int .u64 (n : Int), .slice a l.length cap] w fun e w' => e = .returned (.tuple #[.int .u64 (mixonV n l).1, .int .i64 (mixonV n l).2]) ∧ Below w.heap.size w w' := by
  unfold mixonV
  cases h : isMix n
  · exact mixon_no n cap a l w hn h
  · exact mixon_yes n cap a l w hn h hb
theorem refmixon_any (n cap : Nat) (a : Option Addr) (l : List UInt8) (w : World) (hn : n < 18446744073709551616) (hb : BytesAt w a l) :
    Calls Tryd.prog 21 #[.int .u64 (n : Int), .slice a l.length cap] w fun e w' => e = .returned (.tuple #[.int .u64 (mixonV n l).1, .int .i64 (mixonV n l).2]) ∧ w = w' := by
  unfold mixonV
  cases h : isMix n
  · exact refmixon_no n cap a l w hn h
  · exact refmixon_yes n cap a l w hn h hb
theorem roll_any (n : Nat) (m : Int) (o i : UInt8) (w : World) (hn : n < 18446744073709551616) :
    Calls Tryd.prog 22 #[.int .u64 (n : Int), .int .i64 m, .int .u8 (vb o), .int .u8 (vb i)] w fun e w' => e = .returned (.tuple #[.int .u64 (rollV n m o i).1, .int .i64 (rollV n m o i).2]) ∧ Below w.heap.size w w' := by
  unfold rollV
  cases h : isMix n
  · exact roll_form n m o i w hn h
  · by_cases hm : 1 ≤ m ∧ m ≤ 1000000
    · simp only [hm, and_self, if_true]; exact roll_yes n m o i w hn h hm.1 hm.2
    · simp only [hm, if_false, if_true]; exact roll_range n m o i w hn h (by omega)
theorem refroll_any (n : Nat) (m : Int) (o i : UInt8) (w : World) (hn : n < 18446744073709551616) :
    Calls Tryd.prog 23 #[.int .u64 (n : Int), .int .i64 m, .int .u8 (vb o), .int .u8 (vb i)] w fun e w' => e = .returned (.tuple #[.int .u64 (rollV n m o i).1, .int .i64 (rollV n m o i).2]) ∧ w = w' := by
  unfold rollV
  cases h : isMix n
  · exact refroll_form n m o i w hn h
  · by_cases hm : 1 ≤ m ∧ m ≤ 1000000
    · simp only [hm, and_self, if_true]; exact refroll_yes n m o i w hn h hm.1 hm.2
    · simp only [hm, if_false, if_true]; exact refroll_range n m o i w hn h (by omega)
set_option maxRecDepth 100000 in
set_option maxHeartbeats 1000000 in
theorem mixes_walk (n : Nat) (cap : Nat) (a : Option Addr) (l : List UInt8) (m : Int) (o i : UInt8) (w : World) (hn : n < 18446744073709551616) (hb : BytesAt w a l) (hh : HalfLaid w) :
    Calls Tryd.prog 6 #[.int .u64 (n : Int), .slice a l.length cap, .agg #[.int .i64 m, .int .u8 (vb o), .int .u8 (vb i)]] w fun e w' => e = .returned (.bool true) ∧ Below w.heap.size w w' := by
  have hm := hb.1
  have k0 := (Keep.start w).alloc (.cells #[.int .i64 m, .int .u8 (vb o), .int .u8 (vb i)] 35)
  by_cases hl : 2000 < l.length
  · have qd : decide (2000 < (l.length : Int)) = true := by simp; omega
    go_enter Tryd.func6, Tryd.ntmps6
    go_wp2_with fail
    refine (shown_any _ (hh.below k0.hB)).mono ?_
    rintro e w1 ⟨rfl, hB⟩
    go_wp2
    go_ret
    exact ⟨rfl, (k0.below hB).hB⟩
  · have qd : decide (2000 < (l.length : Int)) = false := by simp; omega
    go_enter Tryd.func6, Tryd.ntmps6
    go_wp2_with fail
    refine (mixon_any n cap a l _ hn (hb.below k0.hB)).mono ?_
    rintro e w1 ⟨rfl, hB⟩
    have k1 := k0.below hB
    clear hB k0
    go_wp2_with fail
    refine (refmixon_any n cap a l w1 hn (hb.below k1.hB)).mono ?_
    rintro e w1 ⟨rfl, rfl⟩
    have c0 := k1.cell 0 w.heap.size _ _ rfl 0 (.int .i64 m) rfl
    have c1 := k1.cell 0 w.heap.size _ _ rfl 1 (.int .u8 (vb o)) rfl
    have c2 := k1.cell 0 w.heap.size _ _ rfl 2 (.int .u8 (vb i)) rfl
    go_wp2_with fail
    refine (roll_any n m o i w1 hn).mono ?_
    rintro e w2 ⟨rfl, hB⟩
    have k2 := k1.below hB
    clear hB k1 c0 c1 c2
    have c0 := k2.cell 0 w.heap.size _ _ rfl 0 (.int .i64 m) rfl
    have c1 := k2.cell 0 w.heap.size _ _ rfl 1 (.int .u8 (vb o)) rfl
    have c2 := k2.cell 0 w.heap.size _ _ rfl 2 (.int .u8 (vb i)) rfl
    go_wp2_with fail
    refine (refroll_any n m o i w2 hn).mono ?_
    rintro e w2 ⟨rfl, rfl⟩
    go_wp2_with fail
    refine (mix_any cap a l w2 (hb.below k2.hB)).mono ?_
    rintro e w3 ⟨rfl, hB⟩
    have k3 := k2.below hB
    clear hB k2 c0 c1 c2
    go_wp2_with fail
    refine (refmix_any cap a l w3 (hb.below k3.hB)).mono ?_
    rintro e w3 ⟨rfl, rfl⟩
    go_wp2_with fail
    refine (shown_any w3 (hh.below k3.hB)).mono ?_
    rintro e w4 ⟨rfl, hB⟩
    go_wp2
    go_ret
    exact ⟨rfl, (k3.below hB).hB⟩
theorem of_u64 {n : Int} (h : (Lit.int .u64 n).wf = true) : ∃ m : Nat, n = (m : Int) ∧ m < 18446744073709551616 := by
  simp only [Lit.wf, Bool.and_eq_true, decide_eq_true_eq] at h
  have h1 : IntKind.u64.min = 0 := by decide
  have h2 : IntKind.u64.max = 18446744073709551615 := by decide
  exact ⟨n.toNat, by omega, by omega⟩
end Go.Proofs.YtpmfpbfbfahniaaDoor
