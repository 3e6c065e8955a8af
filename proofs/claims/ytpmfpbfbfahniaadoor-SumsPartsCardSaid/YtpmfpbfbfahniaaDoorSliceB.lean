/- Parts of a slice of bytes. -/
import Derived.Test.YtpmfpbfbfahniaaDoorBase
namespace Go.Proofs.YtpmfpbfbfahniaaDoor
open Go.RowKit
open Lime
theorem byte_size1 (w : World) : (sizeOf 5).run Tryd.prog w = .ok 1 w := by kernel_rfl
theorem run_bound1 (i y : Nat) (c : BoundsCode) (h : i ≤ y) (w : World) : (Instr.sliceBound (.int .i64 (i : Int)) y c).run Tryd.prog w = .ok i w := by
  have h' : (0 : Int) ≤ i ∧ (i : Int) ≤ y := by omega
  simp [Instr.sliceBound, asIntOf, h']
def upA (a : Option Addr) (cap : Nat) : Option Addr := if cap = 0 then a else a.map (·.add (0 * 1))
def fromA (a : Option Addr) (cap i : Nat) : Option Addr := if cap = i then a else a.map (·.add (i * 1))
/-- 'b[:i]' -/
theorem run_slice_upto (a : Option Addr) (len cap i : Nat) (h : i ≤ cap) (w : World) :
    (Instr.sliceAt 23 (.slice a len cap) none (some (.int .i64 (i : Int))) none).run Tryd.prog w = .ok (.slice (upA a cap) i cap) w := by
  simp only [Instr.sliceAt, Instr.slice, Sem.run_bind, run_underlying Tryd.underlying23, Result.andThen_ok, Instr.sliceBounds, run_bound1 i cap _ h, Sem.run_pure, byte_size1, Nat.sub_zero]
  rfl
/-- 'b[i:]' -/
theorem run_slice_from (a : Option Addr) (len cap i : Nat) (h : i ≤ len) (w : World) :
    (Instr.sliceAt 23 (.slice a len cap) (some (.int .i64 (i : Int))) none none).run Tryd.prog w = .ok (.slice (fromA a cap i) (len - i) (cap - i)) w := by
  simp only [Instr.sliceAt, Instr.slice, Sem.run_bind, run_underlying Tryd.underlying23, Result.andThen_ok, Instr.sliceBounds, run_bound1 i len _ h, Sem.run_pure, byte_size1]
  rfl
theorem BytesAt.upto {w : World} {a : Option Addr} {l : List UInt8} (h : BytesAt w a l) (cap i : Nat) (hi : i ≤ l.length) : BytesAt w (upA a cap) (l.take i) := by
  have hlen : (l.take i).length = i := by simp; omega
  refine ⟨by rw [hlen]; have := h.1; omega, ?_⟩
  rcases h.2 with h0 | ⟨b, off, rfl, hc⟩
  · left; rw [hlen]; omega
  · right
    refine ⟨b, off, ?_, fun j hj => ?_⟩
    · unfold upA; split
      · rfl
      · simp [Addr.add_lit]
    · rw [hlen] at hj
      rw [hc j (by omega)]
      simp [at8, hj]
theorem BytesAt.from {w : World} {a : Option Addr} {l : List UInt8} (h : BytesAt w a l) (cap i : Nat) (hi : i ≤ l.length) (hc : l.length ≤ cap) : BytesAt w (fromA a cap i) (l.drop i) := by
  have hlen : (l.drop i).length = l.length - i := by simp
  refine ⟨by rw [hlen]; have := h.1; omega, ?_⟩
  by_cases he : i = l.length
  · left; rw [hlen]; omega
  rcases h.2 with h0 | ⟨b, off, rfl, hcc⟩
  · left; rw [hlen]; omega
  · right
    refine ⟨b, off + i, ?_, fun j hj => ?_⟩
    · unfold fromA; rw [if_neg (by omega)]; simp [Addr.add_lit]
    · rw [hlen] at hj
      rw [show off + i + j = off + (i + j) by omega, hcc (i + j) (by omega)]
      simp [at8, List.getElem?_drop]
end Go.Proofs.YtpmfpbfbfahniaaDoor
