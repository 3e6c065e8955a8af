/- The argument of the statements about frames: its cells, and its kind. -/
import Derived.Test.YtghaaonghlfepaaDoorFrMath
import Derived.Test.YtghaaonghlfepaaDoorAwake7
import Derived.Test.YtghaaonghlfepaaDoorLawSeals
import Derived.Deep.SlicePairs
namespace Go.Proofs.YtghaaonghlfepaaDoor
open Go.RowKit
open Lime
/-- the cells of an Odd -/
def oddC (at_ : UInt8) (k : Int) (q : BitVec 32) (d : ByteArray) (ch : Value) (fx : Bool) : Array Value :=
  #[.int .u8 (vb at_), .int .i64 k, .int .u32 (vu q), .string d, ch, .bool fx]
/-- the kind that is taken -/
def kindB (k : Int) : UInt8 := UInt8.ofNat (1 + (k % 18446744073709551616 % 255).toNat)
theorem vb_kind (k : Int) : vb (kindB k) = 1 + k % 18446744073709551616 % 255 := by
  unfold vb kindB; simp; omega
theorem g_kind (k : Int) : wrap64 (1 + wrap64 ((IntKind.u64.wrap k).tmod 255)) = vb (kindB k) := by
  have h1 : IntKind.u64.wrap k = k % 18446744073709551616 := by rw [IntKind.wrap_u64]
  have h2 : (k % 18446744073709551616).tmod 255 = k % 18446744073709551616 % 255 := Int.tmod_eq_emod_of_nonneg (by omega)
  rw [h1, h2, vb_kind]
  unfold wrap64; omega
theorem kind_one (k : Int) : 1 ≤ vb (kindB k) := by rw [vb_kind]; omega
theorem kind_ne (k : Int) : kindB k ≠ 0 := by intro h; have := kind_one k; rw [h] at this; exact absurd this (by decide)
theorem g_w64_8 (c : UInt8) : wrap64 (vb c) = vb c := by have := vb_nonneg c; have := vb_lt c; unfold wrap64; omega
/-- what Open returns, field by field -/
theorem openV_shape (p : Nat) (s : Sector) : ∃ (fk : Int) (fq : BitVec 32) (fd : ByteArray), openV p s = .tuple #[.agg #[.int .i64 fk, .int .u32 (vu fq), .string fd], .int .i64 (openCode p s)] ∧
    (openCode p s = 0 → fk = vb (sat s 1) ∧ fq = getN s 4 ∧ fd = frData s) ∧ (openCode p s ≠ 0 → fk = 0 ∧ fq = 0#32 ∧ fd = ByteArray.empty) := by
  by_cases h : openCode p s = 0
  · exact ⟨vb (sat s 1), getN s 4, frData s, by rw [openV, if_pos h]; rfl, fun _ => ⟨rfl, rfl, rfl⟩, fun h' => absurd h h'⟩
  · exact ⟨0, 0#32, ByteArray.empty, by rw [openV, if_neg h]; rfl, fun h' => absurd h' h, fun _ => ⟨rfl, rfl, rfl⟩⟩
end Go.Proofs.YtghaaonghlfepaaDoor
